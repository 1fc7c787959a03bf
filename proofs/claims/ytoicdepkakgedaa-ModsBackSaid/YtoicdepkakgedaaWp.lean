/- Numbers as bytes (package word): Put and Get, for a program without a reader of bits. -/
import Derived.Test.YtoicdepkakgedaaBa
import Derived.Test.YtoicdepkakgedaaM
import Derived.Laws.BytesArg
import Derived.Lib.Tables
import Derived.Lib.IndexBytes
namespace Go.Proofs.Ytoicdepkakgedaa
open Go.RowKit
set_option linter.unusedVariables false
set_option linter.unusedSimpArgs false

theorem ret_int {k : IntKind} {a b : Int} (h : a = b) : Ending.returned (.int k a) = .returned (.int k b) := by rw [h]
def zero8 : Obj := .cells #[.int .u8 0, .int .u8 0, .int .u8 0, .int .u8 0, .int .u8 0, .int .u8 0, .int .u8 0, .int .u8 0] 77

/-- Which numbers fit into so many bytes. -/
def putB (n : Nat) (size : Int) : Bool := decide (1 ≤ size ∧ size ≤ 8 ∧ n < 2 ^ (8 * size.toNat))
def putS (n : Nat) (size : Int) : ByteArray := if putB n size then leb n size.toNat else ByteArray.empty

theorem run_convert_cells {P : Program} (w : World) (src dst e t : TypeId) (hs : P.underlying src = some (.slice e)) (he : P.underlying e = some (.int .u8)) (hd : P.underlying dst = some .string)
    (g k cap : Nat) (l : List UInt8) (hg : w.heap[g]? = some (.cells (Lib.byteCells l).toArray t (0, 0))) (hk : k ≤ l.length) : (convert src dst (.slice (some ⟨g, 0, none⟩) k cap)).run P w = .ok (.string ⟨(l.take k).toArray⟩) w := by
  rw [run_convert_bytes_arg w src e hs he g 0 k cap ((l.take k).map fun b => (b.toNat : Int)) (by simp; omega) (fun i hi => ?_) dst hd]
  · congr 2
    have e : List.map ((fun n : Int => UInt8.ofNat n.toNat) ∘ fun b : UInt8 => (b.toNat : Int)) (l.take k) = l.take k := by
      conv => rhs; rw [← List.map_id (l.take k)]
      apply List.map_congr_left
      intro b _
      simp
    simp only [strOfNums, List.map_map, e]
  · rw [Nat.zero_add, cell_of hg]
    have hi' : i < l.length := by omega
    simp [Lib.byteCells, List.getD, List.getElem?_take, hi, List.getElem?_eq_getElem hi']

theorem byteCells_set (l : List UInt8) (j : Nat) (b : UInt8) : (Lib.byteCells l).toArray.setIfInBounds j (.int .u8 (b.toNat : Int)) = (Lib.byteCells (l.set j b)).toArray := by
  apply Array.ext'
  simp [Lib.byteCells, List.map_set]

/-- The array behind j rounds. -/
def putL (n j : Nat) : List UInt8 := lebL n j ++ List.replicate (8 - j) 0
theorem putL_length (n j : Nat) (h : j ≤ 8) : (putL n j).length = 8 := by simp [putL, length_lebL]; omega
theorem putL_step (n j : Nat) (h : j < 8) : (putL n j).set j (UInt8.ofNat (n / 2 ^ (8 * j))) = putL n (j + 1) := by
  unfold putL
  rw [List.set_append_right _ _ (by rw [length_lebL]; exact Nat.le_refl _), length_lebL, Nat.sub_self, show 8 - j = (8 - (j + 1)) + 1 by omega, List.replicate_succ, List.set_cons_zero, lebL_add, pow256]
  simp [lebL]
theorem putL_done (n k : Nat) (h : k ≤ 8) : (⟨((putL n 8).take k).toArray⟩ : ByteArray) = leb n k := by
  unfold putL leb
  simp only [Nat.sub_self, List.replicate_zero, List.append_nil]
  rw [show 8 = k + (8 - k) by omega, lebL_add, List.take_left' (length_lebL _ _)]

set_option maxRecDepth 100000 in
set_option maxHeartbeats 1600000 in
theorem put_any (n : Nat) (size : Int) (w : World) (hn : n < 2 ^ 64) (hs : -9223372036854775808 ≤ size) (hs1 : size ≤ 9223372036854775807) :
    Calls Try.prog 31 #[.int .u64 n, .int .i64 size] w fun e w' => e = .returned (.tuple #[.string (putS n size), .bool (putB n size)]) ∧ Fr [] w w' := by
  by_cases h0 : size < 1 ∨ 8 < size
  · have e : putB n size = false := by unfold putB; apply decide_eq_false; omega
    have e1 : putS n size = ByteArray.empty := by unfold putS; rw [e]; rfl
    rw [e, e1]
    rcases h0 with h | h
    all_goals
      go_enter Try.func31, Try.ntmps31
      go_wp2
      go_ret2
      exact ⟨rfl, Fr.refl _ _⟩
  obtain ⟨k, rfl⟩ := Int.eq_ofNat_of_zero_le (show 0 ≤ size by omega)
  have i1 : 1 ≤ (k : Int) := by omega
  have i2 : (k : Int) ≤ 8 := by omega
  have hc : ((2:Int) ^ (8 * k)) = ((2 ^ (8 * k) : Nat) : Int) := by simp
  clear h0 hs hs1
  by_cases hf : n < 2 ^ (8 * k)
  · have e : putB n k = true := by unfold putB; apply decide_eq_true; simp; omega
    have e1 : putS n k = leb n k := by unfold putS; rw [e]; simp
    have hsh : (n : Int) / 2 ^ (8 * k) = 0 := by rw [hc, ← Int.natCast_ediv, Nat.div_eq_of_lt hf]; rfl
    rw [e, e1]
    have hz : (#[.int .u8 0, .int .u8 0, .int .u8 0, .int .u8 0, .int .u8 0, .int .u8 0, .int .u8 0, .int .u8 0] : Array Value) = (Lib.byteCells (putL n 0)).toArray := rfl
    have hn1 : (w.alloc zero8).heap[w.heap.size]? = some (.cells (Lib.byteCells (putL n 0)).toArray 77 (0, 0)) := new_of w zero8
    have hf1 : Fr [] w (w.alloc zero8) := Fr.alloc _ _ _
    have HN := Lib.hid (And.intro hn1 hf1)
    unfold zero8 at HN
    clear e e1 hc hf hz hn1 hf1
    by_cases h8 : (k : Int) < 8
    all_goals
      go_enter Try.func31, Try.ntmps31
      go_wp2_with fail
      go_loopw [25] (fun i wr => ∃ j : Nat, j ≤ 8 ∧ i = .int .i64 j ∧ wr.heap[w.heap.size]? = some (.cells (Lib.byteCells (putL n j)).toArray 77 (0, 0)) ∧ Fr [] w wr) (fun i _ => 8 - (intOf i).toNat)
      case atStart => exact ⟨0, Nat.zero_le _, rfl, HN.out.1, HN.out.2⟩
      case round =>
        obtain ⟨j, hj, rfl, hb, hF⟩ := hrel
        by_cases hj8 : j < 8
        · have hcl : wr.cell? ⟨w.heap.size, j, none⟩ = some (.int .u8 (((putL n j)[j]'(by rw [putL_length _ _ hj]; exact hj8)).toNat : Int)) := by
            rw [cell_of hb]; simp [Lib.byteCells, List.getElem?_eq_getElem (show j < (putL n j).length by rw [putL_length _ _ hj]; exact hj8)]
          have hfz := free_of hb j
          have hset := set_of hb j (.int .u8 ((UInt8.ofNat (n / 2 ^ (8 * j))).toNat : Int))
          rw [byteCells_set, putL_step n j hj8] at hset
          have hwr : (n : Int) / 2 ^ (8 * j) % 256 = ((UInt8.ofNat (n / 2 ^ (8 * j))).toNat : Int) := by
            have hc : ((2:Int) ^ (8 * j)) = ((2 ^ (8 * j) : Nat) : Int) := by simp
            rw [hc, ← Int.natCast_ediv]; simp
          have HSET := Lib.hid hset
          have HWR := Lib.hid hwr
          clear hset hwr hb
          go_wp2_with fail
          go_roundw
          case rel => exact ⟨j + 1, by omega, by go_num, by rw [HWR.out]; exact HSET.out, (Fr.setCell _ _ _ _).outL hF (by simp)⟩
          case measure => simp [intOf]; omega
        · have hj8' : j = 8 := by omega
          subst hj8'
          have hcv := run_convert_cells wr 60 9 5 77 Try.underlying60 Try.underlying5 Try.underlying9 w.heap.size k 8 (putL n 8) hb (by rw [putL_length _ _ (Nat.le_refl _)]; omega)
          rw [putL_done n k (by omega)] at hcv
          go_wp2_with fail
          go_ret2
          exact ⟨rfl, hF⟩
  · have e : putB n k = false := by unfold putB; apply decide_eq_false; simp; omega
    have e1 : putS n k = ByteArray.empty := by unfold putS; rw [e]; rfl
    have h8 : k < 8 := by
      rcases Nat.lt_or_ge k 8 with h | h
      · exact h
      · exfalso; apply hf; exact Nat.lt_of_lt_of_le hn (Nat.pow_le_pow_right (by decide) (by omega))
    obtain ⟨y, hy⟩ : ∃ y, n / 2 ^ (8 * k) = y := ⟨_, rfl⟩
    have hyp : 0 < y := by rw [← hy]; exact Nat.div_pos (by omega) (Nat.pow_pos (by decide))
    have hsh : (n : Int) / 2 ^ (8 * k) = (y : Int) := by rw [hc, ← Int.natCast_ediv, hy]
    have hne : ((y : Int) != 0) = true := by rw [bne_iff_ne]; omega
    have i3 : (k : Int) < 8 := by omega
    rw [e, e1]
    clear e e1 hc hf hy
    go_enter Try.func31, Try.ntmps31
    go_wp2
    go_ret2
    exact ⟨rfl, Fr.refl _ _⟩
/-- Which numbers bytes are. -/
def getB (s : ByteArray) (p size : Int) : Bool := decide (1 ≤ size ∧ size ≤ 8 ∧ 0 ≤ p ∧ p ≤ s.size ∧ size ≤ (s.size : Int) - p)
def getN (s : ByteArray) (p size : Int) : Nat := if getB s p size then num s / 2 ^ (8 * p.toNat) % 2 ^ (8 * size.toNat) else 0

theorem get_step (s : ByteArray) (p j k : Nat) (hp : p + j < s.size) (hj : j < 8) (hk : p + j = k) (hk' : k < s.size) :
    bits .or .u64 ((num s / 2 ^ (8 * p) % 2 ^ (8 * j) : Nat) : Int) (IntKind.u64.wrap (IntKind.u64.wrap ((s[k]).toNat : Int) * 2 ^ (8 * j))) = ((num s / 2 ^ (8 * p) % 2 ^ (8 * (j + 1)) : Nat) : Int) := by
  subst hk
  have hb := (s[p + j]).toNat_lt
  have hl : num s / 2 ^ (8 * p) % 2 ^ (8 * j) < 2 ^ (8 * j) := Nat.mod_lt _ (Nat.pow_pos (by decide))
  have hq : (2:Nat) ^ (8 * j) ≤ 2 ^ 56 := Nat.pow_le_pow_right (by decide) (by omega)
  have hpp : (s[p + j]).toNat * 2 ^ (8 * j) < 2 ^ 64 := by
    calc (s[p + j]).toNat * 2 ^ (8 * j) < 256 * 2 ^ (8 * j) := Nat.mul_lt_mul_of_pos_right hb (Nat.pow_pos (by decide))
      _ ≤ 256 * 2 ^ 56 := Nat.mul_le_mul_left _ hq
      _ = 2 ^ 64 := by decide
  have e2 : IntKind.u64.wrap (IntKind.u64.wrap ((s[p + j]).toNat : Int) * 2 ^ (8 * j)) = (((s[p + j]).toNat * 2 ^ (8 * j) : Nat) : Int) := by
    have hc : ((2:Int) ^ (8 * j)) = ((2 ^ (8 * j) : Nat) : Int) := by simp
    rw [hc, IntKind.wrap_u64, IntKind.wrap_u64, Int.emod_eq_of_lt (a := ((s[p + j]).toNat : Int)) (by omega) (by omega), ← Int.natCast_mul, Int.emod_eq_of_lt (by omega) (by omega)]
  rw [e2, or_low _ _ _ hl hpp (by omega)]
  congr 1
  have hg := numL_get s.data.toList (p + j) (by simpa using hk')
  have hg' : (s[p + j]).toNat = num s / 2 ^ (8 * (p + j)) % 256 := by rw [num, ← hg]; rfl
  rw [hg', show 8 * (p + j) = 8 * p + 8 * j by omega, Nat.pow_add, ← Nat.div_div_eq_div_mul, show 8 * (j + 1) = 8 * j + 8 by omega, Nat.pow_add, Nat.mod_mul, Nat.mul_comm (2 ^ (8 * j))]

set_option maxRecDepth 100000 in
set_option maxHeartbeats 1600000 in
theorem get_any (s : ByteArray) (p size : Int) (w : World) (hs : s.size ≤ 1000000000) (hp : -9223372036854775808 ≤ p) (hp1 : p ≤ 9223372036854775807) :
    Calls Try.prog 34 #[.string s, .int .i64 p, .int .i64 size] w fun e w' => e = .returned (.tuple #[.int .u64 (getN s p size : Int), .bool (getB s p size)]) ∧ Fr [] w w' := by
  have i0 : (s.size : Int) ≤ 1000000000 := by omega
  by_cases hok : 1 ≤ size ∧ size ≤ 8 ∧ 0 ≤ p ∧ p ≤ s.size ∧ size ≤ (s.size : Int) - p
  · have e : getB s p size = true := decide_eq_true hok
    obtain ⟨g1, g2, g3, g4, g5⟩ := hok
    obtain ⟨k, rfl⟩ := Int.eq_ofNat_of_zero_le (show 0 ≤ size by omega)
    obtain ⟨q, rfl⟩ := Int.eq_ofNat_of_zero_le g3
    have e1 : getN s q k = num s / 2 ^ (8 * q) % 2 ^ (8 * k) := by unfold getN; rw [e]; simp
    rw [e, e1]
    clear e e1 hp hp1
    go_enter Try.func34, Try.ntmps34
    go_wp2_with fail
    go_loop [6, 34] (fun n i => ∃ j : Nat, j ≤ k ∧ i = .int .i64 j ∧ n = .int .u64 ((num s / 2 ^ (8 * q) % 2 ^ (8 * j) : Nat) : Int)) (fun _ i => k - (intOf i).toNat)
    case atStart => exact ⟨0, Nat.zero_le _, rfl, by simp [Nat.mod_one]⟩
    case round =>
      obtain ⟨j, hj, rfl, rfl⟩ := hrel
      by_cases hjk : j < k
      · obtain ⟨m, hm⟩ : ∃ m, q + j = m := ⟨_, rfl⟩
        have hms : m < s.size := by omega
        have hst := get_step s q j m (by omega) (by omega) hm hms
        have hsum : (q : Int) + (j : Int) = (m : Int) := by omega
        have hix := run_index_text (P := Try.prog) w 9 s .i64 m Try.underlying9 hms
        have HST := Lib.hid hst
        generalize num s / 2 ^ (8 * q) % 2 ^ (8 * j) = X at *
        clear hst hm
        go_wp2
        go_round
        case rel => exact ⟨j + 1, by omega, by go_num, by rw [HST.out]⟩
        case measure => simp [intOf]; omega
      · have hje : j = k := by omega
        subst hje
        go_wp2
        go_ret2
        exact ⟨rfl, Fr.refl _ _⟩
  · have e : getB s p size = false := decide_eq_false hok
    have e1 : getN s p size = 0 := by unfold getN; rw [e]; rfl
    rw [e, e1]
    by_cases h1 : size < 1
    · go_enter Try.func34, Try.ntmps34
      go_wp2
      go_ret2
      exact ⟨rfl, Fr.refl _ _⟩
    by_cases h2 : 8 < size
    · go_enter Try.func34, Try.ntmps34
      go_wp2
      go_ret2
      exact ⟨rfl, Fr.refl _ _⟩
    by_cases h3 : p < 0
    · go_enter Try.func34, Try.ntmps34
      go_wp2
      go_ret2
      exact ⟨rfl, Fr.refl _ _⟩
    by_cases h4 : (s.size : Int) < p
    · go_enter Try.func34, Try.ntmps34
      go_wp2
      go_ret2
      exact ⟨rfl, Fr.refl _ _⟩
    have h5 : (s.size : Int) - p < size := by omega
    clear hok
    go_enter Try.func34, Try.ntmps34
    go_wp2
    go_ret2
    exact ⟨rfl, Fr.refl _ _⟩

end Go.Proofs.Ytoicdepkakgedaa
