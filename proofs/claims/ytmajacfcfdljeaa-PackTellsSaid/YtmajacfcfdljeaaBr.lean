/- What each call of a reader of bits (package bitr) does, and of a mask: each function of them once, whatever the text, wherever it stands. -/
import Derived.Test.YtmajacfcfdljeaaM
import Derived.Test.YtmajacfcfdljeaaBa
import Derived.Lib.IndexBytes
namespace Go.Proofs.Ytmajacfcfdljeaa
open Go.RowKit
set_option linter.unusedVariables false
set_option linter.unusedSimpArgs false

theorem ret_int {k : IntKind} {a b : Int} (h : a = b) : Ending.returned (.int k a) = .returned (.int k b) := by rw [h]

/-- As many bits as are asked for, or as are there; and their number. -/
def peekH (s : ByteArray) (a : Nat) (size : Nat) : Nat := min size (8 * s.size - a)
def peekN (s : ByteArray) (a : Nat) (size : Nat) : Nat := num s / 2 ^ a % 2 ^ peekH s a size
def maskN (a : Int) : Nat := 2 ^ min a.toNat 64 - 1

theorem maskN_lt (a : Int) : maskN a < 2 ^ 64 := by
  have : 2 ^ min a.toNat 64 ≤ 2 ^ 64 := Nat.pow_le_pow_right (by decide) (by omega)
  have : 0 < 2 ^ min a.toNat 64 := Nat.pow_pos (by decide)
  unfold maskN; omega

/-- What a skip tells. -/
def skipE (s : ByteArray) (a : Nat) (size : Int) : Int := if size < 0 then 2 else if ((8 * s.size - a : Nat) : Int) < size then 6 else 0

/-- The eight bytes from a place on, noughts behind the end. -/
def eight (s : ByteArray) (k : Nat) : List UInt8 := (s.data.toList.drop k).take 8 ++ List.replicate (8 - min (s.size - k) 8) 0
theorem eight_length (s : ByteArray) (k : Nat) : (eight s k).length = 8 := by
  have : s.data.toList.length = s.size := by simp
  simp only [eight, List.length_append, List.length_take, List.length_drop, List.length_replicate, this]; omega
theorem eight_num (s : ByteArray) (k : Nat) : numL (eight s k) = num s / 2 ^ (8 * k) % 2 ^ 64 := by
  rw [eight, numL_append, numL_zeros, numL_take, numL_drop, Nat.mul_zero, Nat.add_zero, pow256]; rfl
theorem eight_cells (s : ByteArray) (k : Nat) : ((Lib.byteCells (s.extract k s.size).data.toList).take (min (s.extract k s.size).size 8) ++ (#[.int .u8 0, .int .u8 0, .int .u8 0, .int .u8 0, .int .u8 0, .int .u8 0, .int .u8 0, .int .u8 0] : Array Value).toList.drop (min (s.extract k s.size).size 8)).toArray = (Lib.byteCells (eight s k)).toArray := by
  have hsz : (s.extract k s.size).size = s.size - k := by simp
  have hl : s.data.toList.length = s.size := by simp
  rw [Lib.extract_to_end, hsz]
  congr 1
  have e : (#[.int .u8 0, .int .u8 0, .int .u8 0, .int .u8 0, .int .u8 0, .int .u8 0, .int .u8 0, .int .u8 0] : Array Value).toList = List.replicate 8 (.int .u8 0) := rfl
  rw [e, List.drop_replicate]
  simp only [Lib.byteCells, eight, List.map_append, List.map_replicate, List.map_take]
  congr 1
  by_cases h : s.size - k ≤ 8
  · rw [show min (s.size - k) 8 = s.size - k by omega, List.take_of_length_le (by simp), List.take_of_length_le (by simp; omega)]
  · rw [show min (s.size - k) 8 = 8 by omega]

theorem or_step (bs : List UInt8) (k : Nat) (hl : bs.length = 8) (hk : k < 8) :
    bits .or .u64 (numL (bs.take k) : Int) (IntKind.u64.wrap (IntKind.u64.wrap ((bs[k]?.getD 0).toNat : Int) * 2 ^ (8 * k))) = (numL (bs.take (k + 1)) : Int) := by
  have e1 : bs[k]?.getD 0 = bs[k] := by rw [List.getElem?_eq_getElem (by omega)]; rfl
  have hb := (bs[k]).toNat_lt
  have hn := numL_lt (bs.take k)
  rw [pow256, List.length_take, hl, show min k 8 = k by omega] at hn
  have hp : (bs[k]).toNat * 2 ^ (8 * k) < 2 ^ 64 := by
    have : (2:Nat) ^ (8 * k) ≤ 2 ^ 56 := Nat.pow_le_pow_right (by decide) (by omega)
    calc (bs[k]).toNat * 2 ^ (8 * k) < 256 * 2 ^ (8 * k) := Nat.mul_lt_mul_of_pos_right hb (Nat.pow_pos (by decide))
      _ ≤ 256 * 2 ^ 56 := Nat.mul_le_mul_left _ this
      _ = 2 ^ 64 := by decide
  have e2 : IntKind.u64.wrap (IntKind.u64.wrap ((bs[k]).toNat : Int) * 2 ^ (8 * k)) = (((bs[k]).toNat * 2 ^ (8 * k) : Nat) : Int) := by
    have hc : ((2:Int) ^ (8 * k)) = ((2 ^ (8 * k) : Nat) : Int) := by simp
    rw [hc, IntKind.wrap_u64, IntKind.wrap_u64, Int.emod_eq_of_lt (a := ((bs[k]).toNat : Int)) (by omega) (by omega), ← Int.natCast_mul, Int.emod_eq_of_lt (by omega) (by omega)]
  rw [e1, e2, or_low _ _ _ hn hp (Nat.lt_of_lt_of_le hn (Nat.pow_le_pow_right (by decide) (by omega)))]
  congr 1
  rw [List.take_succ_eq_append_getElem (by omega), numL_append, List.length_take, show min k bs.length = k by omega, pow256]
  simp [numL, Nat.mul_comm]

theorem ret_two {k l : IntKind} {a b c d : Int} (h : a = b) (g : c = d) : Ending.returned (.tuple #[.int k a, .int l c]) = .returned (.tuple #[.int k b, .int l d]) := by rw [h, g]
theorem peek_fin (s : ByteArray) (a size : Nat) (bs : List UInt8) (ha : a ≤ 8 * s.size) (hz : size ≤ 56) (h : numL bs = num s / 2 ^ (8 * (a / 8)) % 2 ^ 64) :
    bits .and .u64 ((numL bs : Int) / 2 ^ (a % 8)) (maskN (peekH s a size : Int) : Int) = (peekN s a size : Int) := by
  have hc : ((2:Int) ^ (a % 8)) = ((2 ^ (a % 8) : Nat) : Int) := by simp
  have hp : peekH s a size ≤ 56 := by unfold peekH; omega
  have hm : maskN (peekH s a size : Int) = 2 ^ peekH s a size - 1 := by unfold maskN; rw [show min (peekH s a size : Int).toNat 64 = peekH s a size by omega]
  have hlt : numL bs < 2 ^ 64 := by rw [h]; exact Nat.mod_lt _ (by decide)
  rw [hc, ← Int.natCast_ediv, hm, and_mask _ _ (Nat.lt_of_le_of_lt (Nat.div_le_self _ _) hlt) (by omega), h]
  congr 1
  unfold peekN
  generalize peekH s a size = p at *
  have e1 : (2:Nat) ^ 64 = 2 ^ (a % 8) * 2 ^ (64 - a % 8) := by rw [← Nat.pow_add]; congr 1; omega
  have e2 : (2:Nat) ^ (64 - a % 8) = 2 ^ p * 2 ^ (64 - a % 8 - p) := by rw [← Nat.pow_add]; congr 1; omega
  have e3 : (2:Nat) ^ a = 2 ^ (8 * (a / 8)) * 2 ^ (a % 8) := by rw [← Nat.pow_add]; congr 1; omega
  rw [e1, Nat.mod_mul_right_div_self, e2, Nat.mod_mul_right_mod, Nat.div_div_eq_div_mul, ← e3]

/-- What a reading of bits tells, and the number that is read. -/
def bitsE (s : ByteArray) (a : Nat) (size : Int) : Int := if size < 0 ∨ 56 < size then 2 else if ((8 * s.size - a : Nat) : Int) < size then 6 else 0
def bitsN (s : ByteArray) (a : Nat) (size : Int) : Nat := if bitsE s a size = 0 then peekN s a size.toNat else 0

/-- Where a reader stands behind an aligning. -/
def alignA (a : Nat) : Nat := (a + 7) / 8 * 8

theorem i64_align (a : Nat) (h : a < 2 ^ 40) : bits .andNot .i64 ((a : Int) + 7) 7 = (alignA a : Int) := by
  have := i64_andNot_low (a + 7) 3 (by omega) (by decide)
  simpa [alignA] using this

/-- What a reading of whole bytes tells, and which they are. -/
def bytesE (s : ByteArray) (a : Nat) (n : Int) : Int := if n < 0 then 2 else if (((8 * s.size - a) / 8 : Nat) : Int) < n then 6 else 0
def bytesS (s : ByteArray) (a : Nat) (n : Int) : ByteArray := if bytesE s a n = 0 then s.extract (alignA a / 8) (alignA a / 8 + n.toNat) else ByteArray.empty

/-! ### none at all -/
end Go.Proofs.Ytmajacfcfdljeaa

