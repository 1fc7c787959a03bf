/- Numbers as bytes, and bits of numbers (package word): what each call does, and what the document's own answers are (package platenref01). The other calls of package word: Get, Small, Up, Log. Greatest bits, and bits turned about: Log, Turn, and what they call of package math/bits. -/
import Derived.Test.YtciejmlhdmjajaaGreatKBr
import Derived.Laws.BytesArg
import Derived.Lib.Tables
import Derived.Lib.IndexBytes
import Derived.Lib.BitFns
import Derived.Deep.Light
import Derived.Shelf.Sort.So_math_bits_Len64In
namespace Go.Proofs.YtciejmlhdmjajaaGreat
open Go.RowKit
set_option linter.unusedVariables false
set_option linter.unusedSimpArgs false

/-! ### plain numbers -/
/-- How many bits a number has. -/
def bl (n : Nat) : Nat := if n = 0 then 0 else Nat.log2 n + 1
theorem bl_le (n k : Nat) : bl n ≤ k ↔ n < 2 ^ k := by
  unfold bl
  by_cases h : n = 0
  · simp [h, Nat.pow_pos]
  · rw [if_neg h]
    have := Nat.log2_lt (n := n) (k := k) h
    omega
theorem bl_eq (n k : Nat) (h1 : 2 ^ k ≤ n) (h2 : n < 2 ^ (k + 1)) : bl n = k + 1 := by
  have a := (bl_le n (k + 1)).2 h2
  have b : ¬ bl n ≤ k := fun h => by have := (bl_le n k).1 h; omega
  omega
theorem bl_shift (n s : Nat) (h : 2 ^ s ≤ n) : bl n = s + bl (n / 2 ^ s) := by
  have hp : 0 < n / 2 ^ s := Nat.div_pos h (Nat.pow_pos (by decide))
  have hx : bl (n / 2 ^ s) ≠ 0 := fun e => by have := (bl_le (n / 2 ^ s) 0).1 (by omega); simp at this; omega
  obtain ⟨k, hk⟩ : ∃ k, bl (n / 2 ^ s) = k + 1 := ⟨bl (n / 2 ^ s) - 1, by omega⟩
  have h1 : n / 2 ^ s < 2 ^ (k + 1) := (bl_le _ _).1 (by omega)
  have h2 : ¬ n / 2 ^ s < 2 ^ k := fun e => by have := (bl_le _ _).2 e; omega
  rw [hk, show s + (k + 1) = (s + k) + 1 by omega]
  apply bl_eq
  · rw [Nat.pow_add, Nat.mul_comm]
    exact (Nat.le_div_iff_mul_le (Nat.pow_pos (by decide))).1 (by omega)
  · rw [show s + k + 1 = s + (k + 1) by omega, Nat.pow_add, Nat.mul_comm]
    exact (Nat.div_lt_iff_lt_mul (Nat.pow_pos (by decide))).1 h1
theorem len8_bl : ∀ i : Nat, i < 256 → Lib.len8 (i : Int) = (bl i : Int) := by decide +kernel

/-- Which numbers fit into so many bytes. -/
def putB (n : Nat) (size : Int) : Bool := decide (1 ≤ size ∧ size ≤ 8 ∧ n < 2 ^ (8 * size.toNat))
def putS (n : Nat) (size : Int) : ByteArray := if putB n size then leb n size.toNat else ByteArray.empty

theorem run_convert_cells {P : Program} (w : World) (src dst e t : TypeId) (hs : P.underlying src = some (.slice e)) (he : P.underlying e = some (.int .u8)) (hd : P.underlying dst = some .string)
    (g k cap : Nat) (l : List UInt8) (hg : w.heap[g]? = some (.cells (Lib.byteCells l).toArray t (0, 0))) (hk : k ≤ l.length) : (convert src dst (.slice (some ⟨g, 0, none⟩) k cap)).run P w = .ok (.string ⟨(l.take k).toArray⟩) w := by
  rw [run_convert_bytes_arg w src e hs he g 0 k cap ((l.take k).map fun b => (b.toNat : Int)) (by simp; omega) (fun i hi => ?_) dst hd]
  · congr 2
    have e : List.map ((fun n : Int => UInt8.ofNat n.toNat) ∘ fun b : UInt8 => (b.toNat : Int)) (l.take k) = l.take k := by
      conv => rhs; rw [← List.map_id (l.take k)]
      apply List.map_congr_left
      intro b _
      simp
    simp only [strOfNums, List.map_map, e]
  · rw [Nat.zero_add, cell_of hg]
    have hi' : i < l.length := by omega
    simp [Lib.byteCells, List.getD, List.getElem?_take, hi, List.getElem?_eq_getElem hi']

theorem byteCells_set (l : List UInt8) (j : Nat) (b : UInt8) : (Lib.byteCells l).toArray.setIfInBounds j (.int .u8 (b.toNat : Int)) = (Lib.byteCells (l.set j b)).toArray := by
  apply Array.ext'
  simp [Lib.byteCells, List.map_set]

/-- The array behind j rounds. -/
def putL (n j : Nat) : List UInt8 := lebL n j ++ List.replicate (8 - j) 0
theorem putL_length (n j : Nat) (h : j ≤ 8) : (putL n j).length = 8 := by simp [putL, length_lebL]; omega
theorem putL_step (n j : Nat) (h : j < 8) : (putL n j).set j (UInt8.ofNat (n / 2 ^ (8 * j))) = putL n (j + 1) := by
  unfold putL
  rw [List.set_append_right _ _ (by rw [length_lebL]; exact Nat.le_refl _), length_lebL, Nat.sub_self, show 8 - j = (8 - (j + 1)) + 1 by omega, List.replicate_succ, List.set_cons_zero, lebL_add, pow256]
  simp [lebL]
theorem putL_done (n k : Nat) (h : k ≤ 8) : (⟨((putL n 8).take k).toArray⟩ : ByteArray) = leb n k := by
  unfold putL leb
  simp only [Nat.sub_self, List.replicate_zero, List.append_nil]
  rw [show 8 = k + (8 - k) by omega, lebL_add, List.take_left' (length_lebL _ _)]

end Go.Proofs.YtciejmlhdmjajaaGreat
namespace Go.Proofs.YtciejmlhdmjajaaGreat
open Go.RowKit
set_option linter.unusedVariables false
set_option linter.unusedSimpArgs false

/-- Which numbers bytes are. -/
def getB (s : ByteArray) (p size : Int) : Bool := decide (1 ≤ size ∧ size ≤ 8 ∧ 0 ≤ p ∧ p ≤ s.size ∧ size ≤ (s.size : Int) - p)
def getN (s : ByteArray) (p size : Int) : Nat := if getB s p size then num s / 2 ^ (8 * p.toNat) % 2 ^ (8 * size.toNat) else 0

theorem get_step (s : ByteArray) (p j k : Nat) (hp : p + j < s.size) (hj : j < 8) (hk : p + j = k) (hk' : k < s.size) :
    bits .or .u64 ((num s / 2 ^ (8 * p) % 2 ^ (8 * j) : Nat) : Int) (IntKind.u64.wrap (IntKind.u64.wrap ((s[k]).toNat : Int) * 2 ^ (8 * j))) = ((num s / 2 ^ (8 * p) % 2 ^ (8 * (j + 1)) : Nat) : Int) := by
  subst hk
  have hb := (s[p + j]).toNat_lt
  have hl : num s / 2 ^ (8 * p) % 2 ^ (8 * j) < 2 ^ (8 * j) := Nat.mod_lt _ (Nat.pow_pos (by decide))
  have hq : (2:Nat) ^ (8 * j) ≤ 2 ^ 56 := Nat.pow_le_pow_right (by decide) (by omega)
  have hpp : (s[p + j]).toNat * 2 ^ (8 * j) < 2 ^ 64 := by
    calc (s[p + j]).toNat * 2 ^ (8 * j) < 256 * 2 ^ (8 * j) := Nat.mul_lt_mul_of_pos_right hb (Nat.pow_pos (by decide))
      _ ≤ 256 * 2 ^ 56 := Nat.mul_le_mul_left _ hq
      _ = 2 ^ 64 := by decide
  have e2 : IntKind.u64.wrap (IntKind.u64.wrap ((s[p + j]).toNat : Int) * 2 ^ (8 * j)) = (((s[p + j]).toNat * 2 ^ (8 * j) : Nat) : Int) := by
    have hc : ((2:Int) ^ (8 * j)) = ((2 ^ (8 * j) : Nat) : Int) := by simp
    rw [hc, IntKind.wrap_u64, IntKind.wrap_u64, Int.emod_eq_of_lt (a := ((s[p + j]).toNat : Int)) (by omega) (by omega), ← Int.natCast_mul, Int.emod_eq_of_lt (by omega) (by omega)]
  rw [e2, or_low _ _ _ hl hpp (by omega)]
  congr 1
  have hg := numL_get s.data.toList (p + j) (by simpa using hk')
  have hg' : (s[p + j]).toNat = num s / 2 ^ (8 * (p + j)) % 256 := by rw [num, ← hg]; rfl
  rw [hg', show 8 * (p + j) = 8 * p + 8 * j by omega, Nat.pow_add, ← Nat.div_div_eq_div_mul, show 8 * (j + 1) = 8 * j + 8 by omega, Nat.pow_add, Nat.mod_mul, Nat.mul_comm (2 ^ (8 * j))]

/-- uint64 of an int. -/
def u64 (n : Int) : Nat := (n % 18446744073709551616).toNat
def smallB (n size : Int) : Bool := decide (0 ≤ n) && putB n.toNat size
def smallN (n size : Int) : Nat := if smallB n size then n.toNat else 0

/-- A multiple. -/
def upN (n t : Int) : Int := if n < 1 ∨ t < 1 then 0 else if 4611686018427387904 < (n + t - 1) / t * t then 0 else (n + t - 1) / t * t
theorem up_le (n t : Int) (hn : 1 ≤ n) (ht : 1 ≤ t) : n ≤ (n + t - 1) / t * t ∧ (n + t - 1) / t * t ≤ n + t - 1 := by
  have h := Int.emod_add_mul_ediv (n + t - 1) t
  have h1 := Int.emod_nonneg (n + t - 1) (show t ≠ 0 by omega)
  have h2 := Int.emod_lt_of_pos (n + t - 1) (show 0 < t by omega)
  rw [Int.mul_comm] at h
  omega

end Go.Proofs.YtciejmlhdmjajaaGreat
namespace Go.Proofs.YtciejmlhdmjajaaGreat
open Go.RowKit
set_option linter.unusedVariables false
set_option linter.unusedSimpArgs false

theorem bl_half (x : Nat) (h : 0 < x) : bl x = 1 + bl (x / 2) := by
  by_cases h1 : x = 1
  · subst h1; decide +kernel
  · have := bl_shift x 1 (by omega)
    rw [Nat.pow_one] at this
    exact this
theorem bitLenAux_bl : ∀ (f x : Nat), x < 2 ^ f → Lib.bitLenAux f x = bl x
  | 0, x, h => by have : x = 0 := by simp at h; exact h
                  subst this; rfl
  | f + 1, x, h => by
    unfold Lib.bitLenAux
    by_cases h0 : x = 0
    · rw [if_pos h0, h0]; rfl
    · rw [if_neg h0, bitLenAux_bl f (x / 2) (by rw [Nat.pow_succ] at h; omega), bl_half x (by omega)]
theorem bitLen_bl (x : Nat) (h : x < 2 ^ 64) : Lib.bitLen x = bl x := bitLenAux_bl 64 x h

set_option maxHeartbeats 32000000 in
set_option maxRecDepth 1000000 in
theorem len64_int (x : Int) (w : World) (h0 : 0 ≤ x) (h1 : x ≤ 18446744073709551615) :
    Calls Tryz.prog 102 #[.int .u64 x] w fun e w' => e = .returned (.int .i64 (Lib.bitLen x.toNat)) ∧ w' = w := by
  go_enter Tryz.func102, Tryz.ntmps102
  go_wp2
  all_goals first
    | (go_ret; refine ⟨congrArg Ending.returned (congrArg (Value.int IntKind.i64) ?_), rfl⟩; go_light)
    | (exfalso
       go_light
       have hs := len8tab_size
       omega)
  all_goals first
    | (rw [len8_get (x / 4294967296 / 65536 / 256) _, Lib.len8_of (x / 4294967296 / 65536 / 256) (by omega) (by omega)]
       have e : (x / 4294967296 / 65536 / 256).toNat = x.toNat / 72057594037927936 := by omega
       have l := Lib.bitLen_le8' (x / 4294967296 / 65536 / 256) (by omega) (by omega)
       have s := Lib.bitLen_shift56 x.toNat (by omega) (by omega)
       rw [e] at l ⊢
       exact wrap_add 56 _ _ (by decide) l s)
    | (rw [len8_get (x / 4294967296 / 65536) _, Lib.len8_of (x / 4294967296 / 65536) (by omega) (by omega)]
       have e : (x / 4294967296 / 65536).toNat = x.toNat / 281474976710656 := by omega
       have l := Lib.bitLen_le8' (x / 4294967296 / 65536) (by omega) (by omega)
       have s := Lib.bitLen_shift48 x.toNat (by omega) (by omega)
       rw [e] at l ⊢
       exact wrap_add 48 _ _ (by decide) l s)
    | (rw [len8_get (x / 4294967296 / 256) _, Lib.len8_of (x / 4294967296 / 256) (by omega) (by omega)]
       have e : (x / 4294967296 / 256).toNat = x.toNat / 1099511627776 := by omega
       have l := Lib.bitLen_le8' (x / 4294967296 / 256) (by omega) (by omega)
       have s := Lib.bitLen_shift40 x.toNat (by omega) (by omega)
       rw [e] at l ⊢
       exact wrap_add 40 _ _ (by decide) l s)
    | (rw [len8_get (x / 4294967296) _, Lib.len8_of (x / 4294967296) (by omega) (by omega)]
       have e : (x / 4294967296).toNat = x.toNat / 4294967296 := by omega
       have l := Lib.bitLen_le8' (x / 4294967296) (by omega) (by omega)
       have s := Lib.bitLen_shift32 x.toNat (by omega) (by omega)
       rw [e] at l ⊢
       exact wrap_add 32 _ _ (by decide) l s)
    | (rw [len8_get (x / 65536 / 256) _, Lib.len8_of (x / 65536 / 256) (by omega) (by omega)]
       have e : (x / 65536 / 256).toNat = x.toNat / 16777216 := by omega
       have l := Lib.bitLen_le8' (x / 65536 / 256) (by omega) (by omega)
       have s := Lib.bitLen_shift24 x.toNat (by omega) (by omega)
       rw [e] at l ⊢
       exact wrap_add 24 _ _ (by decide) l s)
    | (rw [len8_get (x / 65536) _, Lib.len8_of (x / 65536) (by omega) (by omega)]
       have e : (x / 65536).toNat = x.toNat / 65536 := by omega
       have l := Lib.bitLen_le8' (x / 65536) (by omega) (by omega)
       have s := Lib.bitLen_shift16 x.toNat (by omega) (by omega)
       rw [e] at l ⊢
       exact wrap_add 16 _ _ (by decide) l s)
    | (rw [len8_get (x / 256) _, Lib.len8_of (x / 256) (by omega) (by omega)]
       have e : (x / 256).toNat = x.toNat / 256 := by omega
       have l := Lib.bitLen_le8' (x / 256) (by omega) (by omega)
       have s := Lib.bitLen_shift8 x.toNat (by omega) (by omega)
       rw [e] at l ⊢
       exact wrap_add 8 _ _ (by decide) l s)
    | (rw [len8_get (x) _, Lib.len8_of (x) (by omega) (by omega)]
       have e : (x).toNat = x.toNat := by omega
       have l := Lib.bitLen_le8' (x) (by omega) (by omega)
       rw [e] at l ⊢
       first | exact wrap_wrap _ l | exact wrap_add 0 _ _ (by decide) l (by omega) | exact wrap_one _ l)

theorem len64_any (x : Nat) (w : World) (h : x < 2 ^ 64) :
    Calls Tryz.prog 102 #[.int .u64 x] w fun e w' => e = .returned (.int .i64 (bl x : Nat)) ∧ w' = w := by
  refine (len64_int x w (by omega) (by omega)).mono ?_
  rintro e w1 ⟨rfl, rfl⟩
  rw [Int.toNat_natCast, bitLen_bl x h]
  exact ⟨rfl, rfl⟩
end Go.Proofs.YtciejmlhdmjajaaGreat

