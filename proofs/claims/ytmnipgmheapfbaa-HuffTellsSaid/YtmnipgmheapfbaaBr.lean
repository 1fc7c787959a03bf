/- What each call of a reader of bits (package bitr) does, and of a mask: each function of them once, whatever the text, wherever it stands. -/
import Derived.Test.YtmnipgmheapfbaaM
import Derived.Test.YtmnipgmheapfbaaBa
import Derived.Lib.IndexBytes
namespace Go.Proofs.Ytmnipgmheapfbaa
open Go.RowKit
set_option linter.unusedVariables false
set_option linter.unusedSimpArgs false

/-- Block b is a reader of s that stands behind a bits. -/
def Rd (w : World) (b : Nat) (s : ByteArray) (a : Nat) : Prop := w.heap[b]? = some (.cells #[.string s, .int .i64 a] 89 (0, 0))
theorem Rd.c0 {w : World} {b : Nat} {s : ByteArray} {a : Nat} (h : Rd w b s a) : w.cell? ⟨b, 0, none⟩ = some (.string s) := cell_of h 0
theorem Rd.c1 {w : World} {b : Nat} {s : ByteArray} {a : Nat} (h : Rd w b s a) : w.cell? ⟨b, 1, none⟩ = some (.int .i64 a) := cell_of h 1
theorem Rd.f0 {w : World} {b : Nat} {s : ByteArray} {a : Nat} (h : Rd w b s a) : w.frozen? ⟨b, 0, none⟩ = false := free_of h 0
theorem Rd.f1 {w : World} {b : Nat} {s : ByteArray} {a : Nat} (h : Rd w b s a) : w.frozen? ⟨b, 1, none⟩ = false := free_of h 1
theorem Rd.to {w w' : World} {b : Nat} {s : ByteArray} {a : Nat} {l : List Nat} (h : Rd w b s a) (k : Fr l w w') (hb : b ∉ l) : Rd w' b s a := k.blk h hb
theorem Rd.set {w : World} {b : Nat} {s : ByteArray} {a : Nat} (h : Rd w b s a) (c : Nat) : Rd (w.setCell ⟨b, 1, none⟩ (.int .i64 c)) b s c := by
  have := set_of h 1 (.int .i64 c); simpa [Rd] using this

theorem ret_int {k : IntKind} {a b : Int} (h : a = b) : Ending.returned (.int k a) = .returned (.int k b) := by rw [h]

/-- As many bits as are asked for, or as are there; and their number. -/
def peekH (s : ByteArray) (a : Nat) (size : Nat) : Nat := min size (8 * s.size - a)
def peekN (s : ByteArray) (a : Nat) (size : Nat) : Nat := num s / 2 ^ a % 2 ^ peekH s a size
def maskN (a : Int) : Nat := 2 ^ min a.toNat 64 - 1

theorem maskN_lt (a : Int) : maskN a < 2 ^ 64 := by
  have : 2 ^ min a.toNat 64 ≤ 2 ^ 64 := Nat.pow_le_pow_right (by decide) (by omega)
  have : 0 < 2 ^ min a.toNat 64 := Nat.pow_pos (by decide)
  unfold maskN; omega

set_option maxHeartbeats 400000 in
theorem mask_any (a : Int) (w : World) : Calls Try.prog 18 #[.int .i64 a] w fun e w' => e = .returned (.int .u64 (maskN a : Int)) ∧ w' = w := by
  by_cases h0 : a ≤ 0
  · have e : (maskN a : Int) = 0 := by simp [maskN, show min a.toNat 64 = 0 by omega]
    rw [e]; clear e
    go_enter Try.func18, Try.ntmps18
    go_wp2
    go_ret
    exact ⟨rfl, rfl⟩
  · by_cases h1 : 64 ≤ a
    · have e : (maskN a : Int) = 18446744073709551615 := by simp [maskN, show min a.toNat 64 = 64 by omega]
      rw [e]; clear e
      have h0' : 0 < a := by omega
      clear h0
      go_enter Try.func18, Try.ntmps18
      go_wp2
      go_ret
      exact ⟨rfl, rfl⟩
    · have e : IntKind.u64.wrap (IntKind.u64.wrap (2 ^ a.toNat) - 1) = (maskN a : Int) := by
        have hp : (2:Nat) ^ a.toNat ≤ 2 ^ 63 := Nat.pow_le_pow_right (by decide) (by omega)
        have hq : 0 < (2:Nat) ^ a.toNat := Nat.pow_pos (by decide)
        have hc : ((2:Int) ^ a.toNat) = ((2 ^ a.toNat : Nat) : Int) := by simp
        rw [IntKind.wrap_u64, IntKind.wrap_u64, hc]
        simp only [maskN, show min a.toNat 64 = a.toNat by omega]
        omega
      have H := Lib.hid e
      clear e
      have h0' : 0 < a := by omega
      have h1' : a < 64 := by omega
      clear h0 h1
      go_enter Try.func18, Try.ntmps18
      go_wp2
      go_ret
      exact ⟨by rw [← H.out]; rfl, rfl⟩

set_option maxHeartbeats 400000 in
theorem rnew_any (s : ByteArray) (w : World) : Calls Try.prog 20 #[.string s] w fun e w' => e = .returned (.pointer (some ⟨w.heap.size, 0, none⟩)) ∧ Rd w' w.heap.size s 0 ∧ Fr [] w w' := by
  go_enter Try.func20, Try.ntmps20
  go_wp2
  go_ret
  exact ⟨rfl, new_of _ _, Fr.alloc _ _ _⟩

set_option maxHeartbeats 400000 in
theorem left_any (b : Nat) (s : ByteArray) (a : Nat) (w : World) (hb : Rd w b s a) (hs : s.size ≤ 1000000000) (ha : a ≤ 8 * s.size) :
    Calls Try.prog 28 #[.pointer (some ⟨b, 0, none⟩)] w fun e w' => e = .returned (.int .i64 ((8 * s.size - a : Nat) : Int)) ∧ ∃ n, w' = w.drewN n := by
  have c0 := hb.c0
  have c1 := hb.c1
  have ha' : (a : Int) ≤ 8 * (s.size : Int) := by omega
  have hs' : (s.size : Int) ≤ 1000000000 := by omega
  clear hb
  go_enter Try.func28, Try.ntmps28
  go_wp2
  go_quiet (fail)
  go_wp2
  go_ret
  exact ⟨ret_int (by omega), _, rfl⟩

set_option maxHeartbeats 400000 in
theorem at_any (b : Nat) (s : ByteArray) (a : Nat) (w : World) (hb : Rd w b s a) :
    Calls Try.prog 27 #[.pointer (some ⟨b, 0, none⟩)] w fun e w' => e = .returned (.int .i64 a) ∧ w' = w := by
  have c1 := hb.c1
  clear hb
  go_enter Try.func27, Try.ntmps27
  go_wp2
  go_ret
  exact ⟨rfl, rfl⟩

/-- What a skip tells. -/
def skipE (s : ByteArray) (a : Nat) (size : Int) : Int := if size < 0 then 2 else if ((8 * s.size - a : Nat) : Int) < size then 6 else 0

set_option maxHeartbeats 400000 in
theorem skip_any (b : Nat) (s : ByteArray) (a : Nat) (size : Int) (w : World) (hb : Rd w b s a) (hs : s.size ≤ 1000000000) (ha : a ≤ 8 * s.size) :
    Calls Try.prog 39 #[.pointer (some ⟨b, 0, none⟩), .int .i64 size] w fun e w' => e = .returned (.int .i64 (skipE s a size)) ∧ Rd w' b s (if skipE s a size = 0 then a + size.toNat else a) ∧ Fr [b] w w' := by
  have c1 := hb.c1
  have f1 := hb.f1
  by_cases h0 : size < 0
  · have e : skipE s a size = 2 := by simp [skipE, h0]
    rw [e]; clear e
    have HB := Lib.hid hb
    clear hb
    go_enter Try.func39, Try.ntmps39
    go_wp2
    go_ret
    exact ⟨rfl, HB.out, Fr.refl _ _⟩
  · by_cases h1 : ((8 * s.size - a : Nat) : Int) < size
    · have e : skipE s a size = 6 := by simp only [skipE, if_neg h0, if_pos h1]
      rw [e]; clear e
      have HB := Lib.hid hb
      clear hb
      have hd := Lib.hid (decide_eq_true h1)
      clear h1
      go_enter Try.func39, Try.ntmps39
      go_wp2_with (go_at_call 28; refine (left_any b s a _ HB.out hs ha).mono ?_; rintro e w' ⟨rfl, n, rfl⟩; have hd1 := hd.out)
      go_ret
      exact ⟨rfl, HB.out.to (Fr.drewN [] w n) (by simp), Fr.drewN _ _ _⟩
    · have e : skipE s a size = 0 := by simp only [skipE, if_neg h0, if_neg h1]
      have e1 : RowKit.wrap64 ((a : Int) + size) = ((a + size.toNat : Nat) : Int) := by unfold RowKit.wrap64; omega
      rw [e]; clear e
      have HE := Lib.hid e1
      clear e1
      have HB := Lib.hid hb
      clear hb
      have hd := Lib.hid (decide_eq_false h1)
      clear h1
      go_enter Try.func39, Try.ntmps39
      go_wp2_with (go_at_call 28; refine (left_any b s a _ HB.out hs ha).mono ?_; rintro e w' ⟨rfl, n, rfl⟩; have hd1 := hd.out)
      have H1 := HE.out
      go_ret
      refine ⟨rfl, ?_, ?_⟩
      · rw [HE.out]; exact (HB.out.to (Fr.drewN [] w n) (by simp)).set _
      · exact (Fr.drewN _ _ _).trans (Fr.setCell _ _ _ _)

/-- The eight bytes from a place on, noughts behind the end. -/
def eight (s : ByteArray) (k : Nat) : List UInt8 := (s.data.toList.drop k).take 8 ++ List.replicate (8 - min (s.size - k) 8) 0
theorem eight_length (s : ByteArray) (k : Nat) : (eight s k).length = 8 := by
  have : s.data.toList.length = s.size := by simp
  simp only [eight, List.length_append, List.length_take, List.length_drop, List.length_replicate, this]; omega
theorem eight_num (s : ByteArray) (k : Nat) : numL (eight s k) = num s / 2 ^ (8 * k) % 2 ^ 64 := by
  rw [eight, numL_append, numL_zeros, numL_take, numL_drop, Nat.mul_zero, Nat.add_zero, pow256]; rfl
theorem eight_cells (s : ByteArray) (k : Nat) : ((Lib.byteCells (s.extract k s.size).data.toList).take (min (s.extract k s.size).size 8) ++ (#[.int .u8 0, .int .u8 0, .int .u8 0, .int .u8 0, .int .u8 0, .int .u8 0, .int .u8 0, .int .u8 0] : Array Value).toList.drop (min (s.extract k s.size).size 8)).toArray = (Lib.byteCells (eight s k)).toArray := by
  have hsz : (s.extract k s.size).size = s.size - k := by simp
  have hl : s.data.toList.length = s.size := by simp
  rw [Lib.extract_to_end, hsz]
  congr 1
  have e : (#[.int .u8 0, .int .u8 0, .int .u8 0, .int .u8 0, .int .u8 0, .int .u8 0, .int .u8 0, .int .u8 0] : Array Value).toList = List.replicate 8 (.int .u8 0) := rfl
  rw [e, List.drop_replicate]
  simp only [Lib.byteCells, eight, List.map_append, List.map_replicate, List.map_take]
  congr 1
  by_cases h : s.size - k ≤ 8
  · rw [show min (s.size - k) 8 = s.size - k by omega, List.take_of_length_le (by simp), List.take_of_length_le (by simp; omega)]
  · rw [show min (s.size - k) 8 = 8 by omega]

theorem or_step (bs : List UInt8) (k : Nat) (hl : bs.length = 8) (hk : k < 8) :
    bits .or .u64 (numL (bs.take k) : Int) (IntKind.u64.wrap (IntKind.u64.wrap ((bs[k]?.getD 0).toNat : Int) * 2 ^ (8 * k))) = (numL (bs.take (k + 1)) : Int) := by
  have e1 : bs[k]?.getD 0 = bs[k] := by rw [List.getElem?_eq_getElem (by omega)]; rfl
  have hb := (bs[k]).toNat_lt
  have hn := numL_lt (bs.take k)
  rw [pow256, List.length_take, hl, show min k 8 = k by omega] at hn
  have hp : (bs[k]).toNat * 2 ^ (8 * k) < 2 ^ 64 := by
    have : (2:Nat) ^ (8 * k) ≤ 2 ^ 56 := Nat.pow_le_pow_right (by decide) (by omega)
    calc (bs[k]).toNat * 2 ^ (8 * k) < 256 * 2 ^ (8 * k) := Nat.mul_lt_mul_of_pos_right hb (Nat.pow_pos (by decide))
      _ ≤ 256 * 2 ^ 56 := Nat.mul_le_mul_left _ this
      _ = 2 ^ 64 := by decide
  have e2 : IntKind.u64.wrap (IntKind.u64.wrap ((bs[k]).toNat : Int) * 2 ^ (8 * k)) = (((bs[k]).toNat * 2 ^ (8 * k) : Nat) : Int) := by
    have hc : ((2:Int) ^ (8 * k)) = ((2 ^ (8 * k) : Nat) : Int) := by simp
    rw [hc, IntKind.wrap_u64, IntKind.wrap_u64, Int.emod_eq_of_lt (a := ((bs[k]).toNat : Int)) (by omega) (by omega), ← Int.natCast_mul, Int.emod_eq_of_lt (by omega) (by omega)]
  rw [e1, e2, or_low _ _ _ hn hp (Nat.lt_of_lt_of_le hn (Nat.pow_le_pow_right (by decide) (by omega)))]
  congr 1
  rw [List.take_succ_eq_append_getElem (by omega), numL_append, List.length_take, show min k bs.length = k by omega, pow256]
  simp [numL, Nat.mul_comm]

def zero8 : Obj := .cells #[.int .u8 0, .int .u8 0, .int .u8 0, .int .u8 0, .int .u8 0, .int .u8 0, .int .u8 0, .int .u8 0] 98

theorem ret_two {k l : IntKind} {a b c d : Int} (h : a = b) (g : c = d) : Ending.returned (.tuple #[.int k a, .int l c]) = .returned (.tuple #[.int k b, .int l d]) := by rw [h, g]
theorem peek_fin (s : ByteArray) (a size : Nat) (bs : List UInt8) (ha : a ≤ 8 * s.size) (hz : size ≤ 56) (h : numL bs = num s / 2 ^ (8 * (a / 8)) % 2 ^ 64) :
    bits .and .u64 ((numL bs : Int) / 2 ^ (a % 8)) (maskN (peekH s a size : Int) : Int) = (peekN s a size : Int) := by
  have hc : ((2:Int) ^ (a % 8)) = ((2 ^ (a % 8) : Nat) : Int) := by simp
  have hp : peekH s a size ≤ 56 := by unfold peekH; omega
  have hm : maskN (peekH s a size : Int) = 2 ^ peekH s a size - 1 := by unfold maskN; rw [show min (peekH s a size : Int).toNat 64 = peekH s a size by omega]
  have hlt : numL bs < 2 ^ 64 := by rw [h]; exact Nat.mod_lt _ (by decide)
  rw [hc, ← Int.natCast_ediv, hm, and_mask _ _ (Nat.lt_of_le_of_lt (Nat.div_le_self _ _) hlt) (by omega), h]
  congr 1
  unfold peekN
  generalize peekH s a size = p at *
  have e1 : (2:Nat) ^ 64 = 2 ^ (a % 8) * 2 ^ (64 - a % 8) := by rw [← Nat.pow_add]; congr 1; omega
  have e2 : (2:Nat) ^ (64 - a % 8) = 2 ^ p * 2 ^ (64 - a % 8 - p) := by rw [← Nat.pow_add]; congr 1; omega
  have e3 : (2:Nat) ^ a = 2 ^ (8 * (a / 8)) * 2 ^ (a % 8) := by rw [← Nat.pow_add]; congr 1; omega
  rw [e1, Nat.mod_mul_right_div_self, e2, Nat.mod_mul_right_mod, Nat.div_div_eq_div_mul, ← e3]

set_option maxRecDepth 100000 in
set_option maxHeartbeats 400000 in
theorem peek_any (b : Nat) (s : ByteArray) (a size : Nat) (w : World) (hb : Rd w b s a) (hs : s.size ≤ 1000000000) (ha : a ≤ 8 * s.size) (hz : size ≤ 56) :
    Calls Try.prog 38 #[.pointer (some ⟨b, 0, none⟩), .int .i64 size] w fun e w' => e = .returned (.tuple #[.int .u64 (peekN s a size : Int), .int .i64 (peekH s a size : Int)]) ∧ Fr [] w w' := by
  have c0 := hb.c0
  have c1 := hb.c1
  have f1 := hb.f1
  have hz' : (size : Int) ≤ 56 := by omega
  have hz0 : 0 ≤ (size : Int) := by omega
  have HB := Lib.hid hb
  clear hb
  have hm : min (size : Int) ((8 * s.size - a : Nat) : Int) = ((peekH s a size : Nat) : Int) := by simp only [peekH]; omega
  have h6 : bits .and .i64 (a : Int) 7 = ((a % 8 : Nat) : Int) := by rw [i64_and_7]; omega
  go_enter Try.func38, Try.ntmps38
  go_wp2_with (go_at_call 28; refine (left_any b s a _ HB.out hs ha).mono ?_; rintro e w' ⟨rfl, n, rfl⟩)
  have hn : ((w.drewN n).alloc zero8).heap[w.heap.size]? = some zero8 := new_of (w.drewN n) zero8
  have hfr : Fr [] w ((w.drewN n).alloc zero8) := (Fr.drewN [] w n).trans (Fr.alloc _ _ _)
  have hrd : Rd ((w.drewN n).alloc zero8) b s a := HB.out.to hfr (by simp)
  have k0 := hrd.c0
  have k1 := hrd.c1
  unfold zero8 at hn hfr hrd k0 k1
  generalize (w.drewN n).alloc (Obj.cells #[.int .u8 0, .int .u8 0, .int .u8 0, .int .u8 0, .int .u8 0, .int .u8 0, .int .u8 0, .int .u8 0] 98) = W at *
  clear c0 c1 f1
  have q0 : 0 ≤ (a : Int) / 8 := by omega
  have q1 : (a : Int) / 8 ≤ (s.size : Int) := by omega
  have et : ((a : Int) / 8).toNat = a / 8 := by omega
  have HT := Lib.hid et
  clear et
  go_still_tail 11, (by kernel_rfl)
  change wpList _ _ _ _ _ W.drew
  have hn1 : W.drew.heap[w.heap.size]? = some (.cells _ _ (0, 0)) := hn
  have hfr1 : Fr [] w W.drew := hfr.drew
  clear hn hfr hrd k0 k1
  generalize W.drew = W1 at *
  refine Lib.wpList_copy_run W1 rfl (.tmp 29) (.tmp 39) 22 9 rfl _ _ rfl rfl (run_copy_text W1 22 9 _ 5 w.heap.size 8 8 _ _ _ (by kernel_rfl) (by kernel_rfl) hn1 (by decide)) ?_
  rw [HT.out]
  have hx : ((Lib.byteCells (s.extract (a / 8) s.size).data.toList).take (min (s.extract (a / 8) s.size).size 8) ++ (#[.int .u8 0, .int .u8 0, .int .u8 0, .int .u8 0, .int .u8 0, .int .u8 0, .int .u8 0, .int .u8 0] : Array Value).toList.drop (min (s.extract (a / 8) s.size).size 8)).toArray = (Lib.byteCells (eight s (a / 8))).toArray := eight_cells s (a / 8)
  rw [hx]
  clear hx
  have hn2 : (W1.setRow w.heap.size (Lib.byteCells (eight s (a / 8))).toArray).heap[w.heap.size]? = some (.cells (Lib.byteCells (eight s (a / 8))).toArray 98 (0, 0)) := setRow_heap _ _ _ _ _ _ hn1
  have hfr2 : Fr [] w (W1.setRow w.heap.size (Lib.byteCells (eight s (a / 8))).toArray) := Fr.of_below (below_setRow hfr1.below (Nat.le_refl _) _)
  clear hn1 hfr1
  generalize W1.setRow w.heap.size (Lib.byteCells (eight s (a / 8))).toArray = W2 at *
  have hl8 : (eight s (a / 8)).length = 8 := eight_length _ _
  have hnum := eight_num s (a / 8)
  have HN := Lib.hid hnum
  have HL := Lib.hid hl8
  clear hnum hl8
  generalize eight s (a / 8) = bs at *
  have hu8 : Try.prog.underlying 98 = some (.array 8 5) := by kernel_rfl
  have hi8 : (Try.prog.info? 98).map (·.size) = some (Lib.byteCells bs).toArray.size := by rw [List.size_toArray, Lib.byteCells_length, HL.out]; kernel_rfl
  have HU := Lib.hid hu8
  have HI8 := Lib.hid hi8
  clear hu8 hi8
  go_wp2_with (refine wpList_load_row rfl 98 _ rfl _ rfl 98 _ (0, 0) _ hn2 HU.out rfl HI8.out ?_)
  have hidx : ∀ (k : Nat) (x : World), k < 8 → (Instr.index 98 (.agg (Lib.byteCells bs).toArray) (.int .i64 (k : Int))).run Try.prog x = .ok (.int .u8 ((bs.getD k 0).toNat : Int)) x := fun k x hk => run_index_bytes x 98 5 8 bs .i64 k (by kernel_rfl) (by kernel_rfl) (by kernel_rfl) HL.out hk
  have HI := Lib.hid hidx
  clear hidx
  go_loop [4, 42] (fun x i => ∃ k : Nat, k ≤ 8 ∧ i = .int .i64 k ∧ x = .int .u64 (numL (bs.take k) : Int)) (fun _ i => 8 - (intOf i).toNat)
  case atStart => exact ⟨0, Nat.zero_le _, rfl, rfl⟩
  case round =>
    obtain ⟨k, hk, rfl, rfl⟩ := hrel
    by_cases hlt : k < 8
    · have hi := HI.out k W2 hlt
      go_wp2
      go_round
      case rel => exact ⟨k + 1, by omega, by go_num, by rw [or_step bs k HL.out hlt]⟩
      case measure => simp [intOf]; omega
    · have h8 : k = 8 := by omega
      subst h8
      rw [List.take_of_length_le (by rw [HL.out]; exact Nat.le_refl _)]
      go_wp2_with fail
      go_quiet ((go_at_call 18; exact Calls.quiet_of_same (mask_any _ _)))
      go_wp2
      go_ret2
      exact ⟨ret_two (peek_fin s a size bs ha hz HN.out) rfl, hfr2.trans (Fr.drewN _ _ _)⟩

set_option maxHeartbeats 400000 in
theorem peek_bad (b : Nat) (size : Int) (w : World) (hz : size < 0 ∨ 56 < size) :
    Calls Try.prog 38 #[.pointer (some ⟨b, 0, none⟩), .int .i64 size] w fun e w' => e = .returned (.tuple #[.int .u64 0, .int .i64 0]) ∧ w' = w := by
  rcases hz with h | h
  all_goals
    go_enter Try.func38, Try.ntmps38
    go_wp2
    go_ret2
    exact ⟨rfl, rfl⟩

/-- What a reading of bits tells, and the number that is read. -/
def bitsE (s : ByteArray) (a : Nat) (size : Int) : Int := if size < 0 ∨ 56 < size then 2 else if ((8 * s.size - a : Nat) : Int) < size then 6 else 0
def bitsN (s : ByteArray) (a : Nat) (size : Int) : Nat := if bitsE s a size = 0 then peekN s a size.toNat else 0

theorem Rd.peek {w w' : World} {b : Nat} {s : ByteArray} {a : Nat} (h : Hid (Rd w b s a)) (k : Fr [] w w') : Rd w' b s a := Rd.to h.out k (by simp)

set_option maxHeartbeats 800000 in
theorem bits_any (b : Nat) (s : ByteArray) (a : Nat) (size : Int) (w : World) (hb : Rd w b s a) (hs : s.size ≤ 1000000000) (ha : a ≤ 8 * s.size) :
    Calls Try.prog 26 #[.pointer (some ⟨b, 0, none⟩), .int .i64 size] w fun e w' => e = .returned (.tuple #[.int .u64 (bitsN s a size : Int), .int .i64 (bitsE s a size)]) ∧ Rd w' b s (if bitsE s a size = 0 then a + size.toNat else a) ∧ Fr [b] w w' := by
  have HB := Lib.hid hb
  clear hb
  by_cases h0 : 56 < size
  · have e : bitsE s a size = 2 := by simp [bitsE, h0]
    have e1 : bitsN s a size = 0 := by simp [bitsN, e]
    rw [e, e1]; clear e e1
    go_enter Try.func26, Try.ntmps26
    go_wp2
    go_ret2
    exact ⟨rfl, HB.out, Fr.refl _ _⟩
  by_cases h1 : size < 0
  · have e : bitsE s a size = 2 := by simp [bitsE, h1]
    have e1 : bitsN s a size = 0 := by simp [bitsN, e]
    have e2 : skipE s a size = 2 := by simp [skipE, h1]
    rw [e, e1]; clear e e1
    have E2 := Lib.hid e2
    clear e2
    have h0' : size ≤ 56 := by omega
    clear h0
    go_enter Try.func26, Try.ntmps26
    go_wp2_with fail
    refine (peek_bad b size _ (.inl h1)).mono ?_
    rintro e w' ⟨rfl, rfl⟩
    go_wp2_with fail
    refine (skip_any b s a size _ HB.out hs ha).mono ?_
    rintro e w2 ⟨rfl, hr, hf⟩
    rw [E2.out] at hr ⊢
    go_wp2
    go_ret2
    exact ⟨rfl, hr, hf⟩
  obtain ⟨n, rfl⟩ := Int.eq_ofNat_of_zero_le (show 0 ≤ size by omega)
  have hn : n ≤ 56 := by omega
  have hn0 : 0 ≤ (n : Int) := by omega
  have hn1 : (n : Int) ≤ 56 := by omega
  clear h0 h1
  by_cases h2 : ((8 * s.size - a : Nat) : Int) < (n : Int)
  · have e : bitsE s a n = 6 := by unfold bitsE; rw [if_neg (by omega), if_pos h2]
    have e1 : bitsN s a n = 0 := by simp [bitsN, e]
    have e2 : skipE s a n = 6 := by unfold skipE; rw [if_neg (by omega), if_pos h2]
    rw [e, e1]; clear e e1 h2
    have E2 := Lib.hid e2
    clear e2
    go_enter Try.func26, Try.ntmps26
    go_wp2_with fail
    refine (peek_any b s a n _ HB.out hs ha hn).mono ?_
    rintro e w1 ⟨rfl, hf1⟩
    go_wp2_with fail
    refine (skip_any b s a n _ (Rd.peek HB hf1) hs ha).mono ?_
    rintro e w2 ⟨rfl, hr, hf⟩
    rw [E2.out] at hr ⊢
    go_wp2
    go_ret2
    exact ⟨rfl, hr, hf1.nil.trans hf⟩
  · have e : bitsE s a n = 0 := by unfold bitsE; rw [if_neg (by omega), if_neg h2]
    have e1 : bitsN s a n = peekN s a n := by simp [bitsN, e]
    have e2 : skipE s a n = 0 := by unfold skipE; rw [if_neg (by omega), if_neg h2]
    rw [e, e1]; clear e e1 h2
    have E2 := Lib.hid e2
    clear e2
    go_enter Try.func26, Try.ntmps26
    go_wp2_with fail
    refine (peek_any b s a n _ HB.out hs ha hn).mono ?_
    rintro e w1 ⟨rfl, hf1⟩
    go_wp2_with fail
    refine (skip_any b s a n _ (Rd.peek HB hf1) hs ha).mono ?_
    rintro e w2 ⟨rfl, hr, hf⟩
    rw [E2.out] at hr ⊢
    go_wp2
    go_ret2
    exact ⟨rfl, hr, hf1.nil.trans hf⟩

/-- Where a reader stands behind an aligning. -/
def alignA (a : Nat) : Nat := (a + 7) / 8 * 8

theorem i64_align (a : Nat) (h : a < 2 ^ 40) : bits .andNot .i64 ((a : Int) + 7) 7 = (alignA a : Int) := by
  have := i64_andNot_low (a + 7) 3 (by omega) (by decide)
  simpa [alignA] using this

/-- What a reading of whole bytes tells, and which they are. -/
def bytesE (s : ByteArray) (a : Nat) (n : Int) : Int := if n < 0 then 2 else if (((8 * s.size - a) / 8 : Nat) : Int) < n then 6 else 0
def bytesS (s : ByteArray) (a : Nat) (n : Int) : ByteArray := if bytesE s a n = 0 then s.extract (alignA a / 8) (alignA a / 8 + n.toNat) else ByteArray.empty

/-! ### none at all -/
theorem left_nil (w : World) : Calls Try.prog 28 #[.pointer none] w fun e w' => e = .returned (.int .i64 0) ∧ w' = w := by
  go_enter Try.func28, Try.ntmps28
  go_wp2
  go_ret
  exact ⟨rfl, rfl⟩
theorem at_nil (w : World) : Calls Try.prog 27 #[.pointer none] w fun e w' => e = .returned (.int .i64 0) ∧ w' = w := by
  go_enter Try.func27, Try.ntmps27
  go_wp2
  go_ret
  exact ⟨rfl, rfl⟩
theorem peek_nil (n : Int) (w : World) : Calls Try.prog 38 #[.pointer none, .int .i64 n] w fun e w' => e = .returned (.tuple #[.int .u64 0, .int .i64 0]) ∧ w' = w := by
  go_enter Try.func38, Try.ntmps38
  go_wp2
  go_ret2
  exact ⟨rfl, rfl⟩
theorem skip_nil (n : Int) (w : World) : Calls Try.prog 39 #[.pointer none, .int .i64 n] w fun e w' => e = .returned (.int .i64 1) ∧ w' = w := by
  go_enter Try.func39, Try.ntmps39
  go_wp2
  go_ret
  exact ⟨rfl, rfl⟩
theorem bits_nil (n : Int) (w : World) : Calls Try.prog 26 #[.pointer none, .int .i64 n] w fun e w' => e = .returned (.tuple #[.int .u64 0, .int .i64 1]) ∧ w' = w := by
  by_cases h : 56 < n
  all_goals
    go_enter Try.func26, Try.ntmps26
    go_wp2_with fail
    refine (peek_nil _ _).mono ?_
    rintro e w' ⟨rfl, rfl⟩
    go_wp2_with fail
    refine (skip_nil _ _).mono ?_
    rintro e w' ⟨rfl, rfl⟩
    go_wp2
    go_ret2
    exact ⟨rfl, rfl⟩

end Go.Proofs.Ytmnipgmheapfbaa

