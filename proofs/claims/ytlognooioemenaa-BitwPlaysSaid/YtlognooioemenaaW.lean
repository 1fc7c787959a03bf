/- Numbers as bytes, and bits of numbers (package word): what each call does, and what the document's own answers are (package platenref01). -/
import Derived.Test.YtlognooioemenaaBr
import Derived.Laws.BytesArg
import Derived.Lib.Tables
import Derived.Lib.IndexBytes
namespace Go.Proofs.Ytlognooioemenaa
open Go.RowKit
set_option linter.unusedVariables false
set_option linter.unusedSimpArgs false

/-! ### plain numbers -/
/-- How many bits a number has. -/
def bl (n : Nat) : Nat := if n = 0 then 0 else Nat.log2 n + 1
theorem bl_le (n k : Nat) : bl n ≤ k ↔ n < 2 ^ k := by
  unfold bl
  by_cases h : n = 0
  · simp [h, Nat.pow_pos]
  · rw [if_neg h]
    have := Nat.log2_lt (n := n) (k := k) h
    omega
theorem bl_eq (n k : Nat) (h1 : 2 ^ k ≤ n) (h2 : n < 2 ^ (k + 1)) : bl n = k + 1 := by
  have a := (bl_le n (k + 1)).2 h2
  have b : ¬ bl n ≤ k := fun h => by have := (bl_le n k).1 h; omega
  omega
theorem bl_shift (n s : Nat) (h : 2 ^ s ≤ n) : bl n = s + bl (n / 2 ^ s) := by
  have hp : 0 < n / 2 ^ s := Nat.div_pos h (Nat.pow_pos (by decide))
  have hx : bl (n / 2 ^ s) ≠ 0 := fun e => by have := (bl_le (n / 2 ^ s) 0).1 (by omega); simp at this; omega
  obtain ⟨k, hk⟩ : ∃ k, bl (n / 2 ^ s) = k + 1 := ⟨bl (n / 2 ^ s) - 1, by omega⟩
  have h1 : n / 2 ^ s < 2 ^ (k + 1) := (bl_le _ _).1 (by omega)
  have h2 : ¬ n / 2 ^ s < 2 ^ k := fun e => by have := (bl_le _ _).2 e; omega
  rw [hk, show s + (k + 1) = (s + k) + 1 by omega]
  apply bl_eq
  · rw [Nat.pow_add, Nat.mul_comm]
    exact (Nat.le_div_iff_mul_le (Nat.pow_pos (by decide))).1 (by omega)
  · rw [show s + k + 1 = s + (k + 1) by omega, Nat.pow_add, Nat.mul_comm]
    exact (Nat.div_lt_iff_lt_mul (Nat.pow_pos (by decide))).1 h1
theorem len8_bl : ∀ i : Nat, i < 256 → Lib.len8 (i : Int) = (bl i : Int) := by decide +kernel

/-- Which numbers fit into so many bytes. -/
def putB (n : Nat) (size : Int) : Bool := decide (1 ≤ size ∧ size ≤ 8 ∧ n < 2 ^ (8 * size.toNat))
def putS (n : Nat) (size : Int) : ByteArray := if putB n size then leb n size.toNat else ByteArray.empty

theorem run_convert_cells {P : Program} (w : World) (src dst e t : TypeId) (hs : P.underlying src = some (.slice e)) (he : P.underlying e = some (.int .u8)) (hd : P.underlying dst = some .string)
    (g k cap : Nat) (l : List UInt8) (hg : w.heap[g]? = some (.cells (Lib.byteCells l).toArray t (0, 0))) (hk : k ≤ l.length) : (convert src dst (.slice (some ⟨g, 0, none⟩) k cap)).run P w = .ok (.string ⟨(l.take k).toArray⟩) w := by
  rw [run_convert_bytes_arg w src e hs he g 0 k cap ((l.take k).map fun b => (b.toNat : Int)) (by simp; omega) (fun i hi => ?_) dst hd]
  · congr 2
    have e : List.map ((fun n : Int => UInt8.ofNat n.toNat) ∘ fun b : UInt8 => (b.toNat : Int)) (l.take k) = l.take k := by
      conv => rhs; rw [← List.map_id (l.take k)]
      apply List.map_congr_left
      intro b _
      simp
    simp only [strOfNums, List.map_map, e]
  · rw [Nat.zero_add, cell_of hg]
    have hi' : i < l.length := by omega
    simp [Lib.byteCells, List.getD, List.getElem?_take, hi, List.getElem?_eq_getElem hi']

theorem byteCells_set (l : List UInt8) (j : Nat) (b : UInt8) : (Lib.byteCells l).toArray.setIfInBounds j (.int .u8 (b.toNat : Int)) = (Lib.byteCells (l.set j b)).toArray := by
  apply Array.ext'
  simp [Lib.byteCells, List.map_set]

/-- The array behind j rounds. -/
def putL (n j : Nat) : List UInt8 := lebL n j ++ List.replicate (8 - j) 0
theorem putL_length (n j : Nat) (h : j ≤ 8) : (putL n j).length = 8 := by simp [putL, length_lebL]; omega
theorem putL_step (n j : Nat) (h : j < 8) : (putL n j).set j (UInt8.ofNat (n / 2 ^ (8 * j))) = putL n (j + 1) := by
  unfold putL
  rw [List.set_append_right _ _ (by rw [length_lebL]; exact Nat.le_refl _), length_lebL, Nat.sub_self, show 8 - j = (8 - (j + 1)) + 1 by omega, List.replicate_succ, List.set_cons_zero, lebL_add, pow256]
  simp [lebL]
theorem putL_done (n k : Nat) (h : k ≤ 8) : (⟨((putL n 8).take k).toArray⟩ : ByteArray) = leb n k := by
  unfold putL leb
  simp only [Nat.sub_self, List.replicate_zero, List.append_nil]
  rw [show 8 = k + (8 - k) by omega, lebL_add, List.take_left' (length_lebL _ _)]

set_option maxRecDepth 100000 in
set_option maxHeartbeats 1600000 in
theorem put_any (n : Nat) (size : Int) (w : World) (hn : n < 2 ^ 64) (hs : -9223372036854775808 ≤ size) (hs1 : size ≤ 9223372036854775807) :
    Calls Try.prog 44 #[.int .u64 n, .int .i64 size] w fun e w' => e = .returned (.tuple #[.string (putS n size), .bool (putB n size)]) ∧ Fr [] w w' := by
  by_cases h0 : size < 1 ∨ 8 < size
  · have e : putB n size = false := by unfold putB; apply decide_eq_false; omega
    have e1 : putS n size = ByteArray.empty := by unfold putS; rw [e]; rfl
    rw [e, e1]
    rcases h0 with h | h
    all_goals
      go_enter Try.func44, Try.ntmps44
      go_wp2
      go_ret2
      exact ⟨rfl, Fr.refl _ _⟩
  obtain ⟨k, rfl⟩ := Int.eq_ofNat_of_zero_le (show 0 ≤ size by omega)
  have i1 : 1 ≤ (k : Int) := by omega
  have i2 : (k : Int) ≤ 8 := by omega
  have hc : ((2:Int) ^ (8 * k)) = ((2 ^ (8 * k) : Nat) : Int) := by simp
  clear h0 hs hs1
  by_cases hf : n < 2 ^ (8 * k)
  · have e : putB n k = true := by unfold putB; apply decide_eq_true; simp; omega
    have e1 : putS n k = leb n k := by unfold putS; rw [e]; simp
    have hsh : (n : Int) / 2 ^ (8 * k) = 0 := by rw [hc, ← Int.natCast_ediv, Nat.div_eq_of_lt hf]; rfl
    rw [e, e1]
    have hz : (#[.int .u8 0, .int .u8 0, .int .u8 0, .int .u8 0, .int .u8 0, .int .u8 0, .int .u8 0, .int .u8 0] : Array Value) = (Lib.byteCells (putL n 0)).toArray := rfl
    have hn1 : (w.alloc zero8).heap[w.heap.size]? = some (.cells (Lib.byteCells (putL n 0)).toArray 99 (0, 0)) := new_of w zero8
    have hf1 : Fr [] w (w.alloc zero8) := Fr.alloc _ _ _
    have HN := Lib.hid (And.intro hn1 hf1)
    unfold zero8 at HN
    clear e e1 hc hf hz hn1 hf1
    by_cases h8 : (k : Int) < 8
    all_goals
      go_enter Try.func44, Try.ntmps44
      go_wp2_with fail
      go_loopw [25] (fun i wr => ∃ j : Nat, j ≤ 8 ∧ i = .int .i64 j ∧ wr.heap[w.heap.size]? = some (.cells (Lib.byteCells (putL n j)).toArray 99 (0, 0)) ∧ Fr [] w wr) (fun i _ => 8 - (intOf i).toNat)
      case atStart => exact ⟨0, Nat.zero_le _, rfl, HN.out.1, HN.out.2⟩
      case round =>
        obtain ⟨j, hj, rfl, hb, hF⟩ := hrel
        by_cases hj8 : j < 8
        · have hcl : wr.cell? ⟨w.heap.size, j, none⟩ = some (.int .u8 (((putL n j)[j]'(by rw [putL_length _ _ hj]; exact hj8)).toNat : Int)) := by
            rw [cell_of hb]; simp [Lib.byteCells, List.getElem?_eq_getElem (show j < (putL n j).length by rw [putL_length _ _ hj]; exact hj8)]
          have hfz := free_of hb j
          have hset := set_of hb j (.int .u8 ((UInt8.ofNat (n / 2 ^ (8 * j))).toNat : Int))
          rw [byteCells_set, putL_step n j hj8] at hset
          have hwr : (n : Int) / 2 ^ (8 * j) % 256 = ((UInt8.ofNat (n / 2 ^ (8 * j))).toNat : Int) := by
            have hc : ((2:Int) ^ (8 * j)) = ((2 ^ (8 * j) : Nat) : Int) := by simp
            rw [hc, ← Int.natCast_ediv]; simp
          have HSET := Lib.hid hset
          have HWR := Lib.hid hwr
          clear hset hwr hb
          go_wp2_with fail
          go_roundw
          case rel => exact ⟨j + 1, by omega, by go_num, by rw [HWR.out]; exact HSET.out, (Fr.setCell _ _ _ _).outL hF (by simp)⟩
          case measure => simp [intOf]; omega
        · have hj8' : j = 8 := by omega
          subst hj8'
          have hcv := run_convert_cells wr 50 9 5 99 Try.underlying50 Try.underlying5 Try.underlying9 w.heap.size k 8 (putL n 8) hb (by rw [putL_length _ _ (Nat.le_refl _)]; omega)
          rw [putL_done n k (by omega)] at hcv
          go_wp2_with fail
          go_ret2
          exact ⟨rfl, hF⟩
  · have e : putB n k = false := by unfold putB; apply decide_eq_false; simp; omega
    have e1 : putS n k = ByteArray.empty := by unfold putS; rw [e]; rfl
    have h8 : k < 8 := by
      rcases Nat.lt_or_ge k 8 with h | h
      · exact h
      · exfalso; apply hf; exact Nat.lt_of_lt_of_le hn (Nat.pow_le_pow_right (by decide) (by omega))
    obtain ⟨y, hy⟩ : ∃ y, n / 2 ^ (8 * k) = y := ⟨_, rfl⟩
    have hyp : 0 < y := by rw [← hy]; exact Nat.div_pos (by omega) (Nat.pow_pos (by decide))
    have hsh : (n : Int) / 2 ^ (8 * k) = (y : Int) := by rw [hc, ← Int.natCast_ediv, hy]
    have hne : ((y : Int) != 0) = true := by rw [bne_iff_ne]; omega
    have i3 : (k : Int) < 8 := by omega
    rw [e, e1]
    clear e e1 hc hf hy
    go_enter Try.func44, Try.ntmps44
    go_wp2
    go_ret2
    exact ⟨rfl, Fr.refl _ _⟩
end Go.Proofs.Ytlognooioemenaa
