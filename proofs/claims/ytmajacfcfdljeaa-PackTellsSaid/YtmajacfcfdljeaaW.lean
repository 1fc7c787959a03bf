/- Numbers as bytes, and bits of numbers (package word): what each call does, and what the document's own answers are (package platenref01). -/
import Derived.Test.YtmajacfcfdljeaaBr
import Derived.Laws.BytesArg
import Derived.Lib.Tables
import Derived.Lib.IndexBytes
namespace Go.Proofs.Ytmajacfcfdljeaa
open Go.RowKit
set_option linter.unusedVariables false
set_option linter.unusedSimpArgs false

/-! ### plain numbers -/
/-- How many bits a number has. -/
def bl (n : Nat) : Nat := if n = 0 then 0 else Nat.log2 n + 1
theorem bl_le (n k : Nat) : bl n ≤ k ↔ n < 2 ^ k := by
  unfold bl
  by_cases h : n = 0
  · simp [h, Nat.pow_pos]
  · rw [if_neg h]
    have := Nat.log2_lt (n := n) (k := k) h
    omega
theorem bl_eq (n k : Nat) (h1 : 2 ^ k ≤ n) (h2 : n < 2 ^ (k + 1)) : bl n = k + 1 := by
  have a := (bl_le n (k + 1)).2 h2
  have b : ¬ bl n ≤ k := fun h => by have := (bl_le n k).1 h; omega
  omega
theorem bl_shift (n s : Nat) (h : 2 ^ s ≤ n) : bl n = s + bl (n / 2 ^ s) := by
  have hp : 0 < n / 2 ^ s := Nat.div_pos h (Nat.pow_pos (by decide))
  have hx : bl (n / 2 ^ s) ≠ 0 := fun e => by have := (bl_le (n / 2 ^ s) 0).1 (by omega); simp at this; omega
  obtain ⟨k, hk⟩ : ∃ k, bl (n / 2 ^ s) = k + 1 := ⟨bl (n / 2 ^ s) - 1, by omega⟩
  have h1 : n / 2 ^ s < 2 ^ (k + 1) := (bl_le _ _).1 (by omega)
  have h2 : ¬ n / 2 ^ s < 2 ^ k := fun e => by have := (bl_le _ _).2 e; omega
  rw [hk, show s + (k + 1) = (s + k) + 1 by omega]
  apply bl_eq
  · rw [Nat.pow_add, Nat.mul_comm]
    exact (Nat.le_div_iff_mul_le (Nat.pow_pos (by decide))).1 (by omega)
  · rw [show s + k + 1 = s + (k + 1) by omega, Nat.pow_add, Nat.mul_comm]
    exact (Nat.div_lt_iff_lt_mul (Nat.pow_pos (by decide))).1 h1
theorem len8_bl : ∀ i : Nat, i < 256 → Lib.len8 (i : Int) = (bl i : Int) := by decide +kernel

/-- Which numbers fit into so many bytes. -/
def putB (n : Nat) (size : Int) : Bool := decide (1 ≤ size ∧ size ≤ 8 ∧ n < 2 ^ (8 * size.toNat))
def putS (n : Nat) (size : Int) : ByteArray := if putB n size then leb n size.toNat else ByteArray.empty

theorem run_convert_cells {P : Program} (w : World) (src dst e t : TypeId) (hs : P.underlying src = some (.slice e)) (he : P.underlying e = some (.int .u8)) (hd : P.underlying dst = some .string)
    (g k cap : Nat) (l : List UInt8) (hg : w.heap[g]? = some (.cells (Lib.byteCells l).toArray t (0, 0))) (hk : k ≤ l.length) : (convert src dst (.slice (some ⟨g, 0, none⟩) k cap)).run P w = .ok (.string ⟨(l.take k).toArray⟩) w := by
  rw [run_convert_bytes_arg w src e hs he g 0 k cap ((l.take k).map fun b => (b.toNat : Int)) (by simp; omega) (fun i hi => ?_) dst hd]
  · congr 2
    have e : List.map ((fun n : Int => UInt8.ofNat n.toNat) ∘ fun b : UInt8 => (b.toNat : Int)) (l.take k) = l.take k := by
      conv => rhs; rw [← List.map_id (l.take k)]
      apply List.map_congr_left
      intro b _
      simp
    simp only [strOfNums, List.map_map, e]
  · rw [Nat.zero_add, cell_of hg]
    have hi' : i < l.length := by omega
    simp [Lib.byteCells, List.getD, List.getElem?_take, hi, List.getElem?_eq_getElem hi']

theorem byteCells_set (l : List UInt8) (j : Nat) (b : UInt8) : (Lib.byteCells l).toArray.setIfInBounds j (.int .u8 (b.toNat : Int)) = (Lib.byteCells (l.set j b)).toArray := by
  apply Array.ext'
  simp [Lib.byteCells, List.map_set]

/-- The array behind j rounds. -/
def putL (n j : Nat) : List UInt8 := lebL n j ++ List.replicate (8 - j) 0
theorem putL_length (n j : Nat) (h : j ≤ 8) : (putL n j).length = 8 := by simp [putL, length_lebL]; omega
theorem putL_step (n j : Nat) (h : j < 8) : (putL n j).set j (UInt8.ofNat (n / 2 ^ (8 * j))) = putL n (j + 1) := by
  unfold putL
  rw [List.set_append_right _ _ (by rw [length_lebL]; exact Nat.le_refl _), length_lebL, Nat.sub_self, show 8 - j = (8 - (j + 1)) + 1 by omega, List.replicate_succ, List.set_cons_zero, lebL_add, pow256]
  simp [lebL]
theorem putL_done (n k : Nat) (h : k ≤ 8) : (⟨((putL n 8).take k).toArray⟩ : ByteArray) = leb n k := by
  unfold putL leb
  simp only [Nat.sub_self, List.replicate_zero, List.append_nil]
  rw [show 8 = k + (8 - k) by omega, lebL_add, List.take_left' (length_lebL _ _)]

end Go.Proofs.Ytmajacfcfdljeaa

