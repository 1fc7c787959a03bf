/- What each call of the document's writer (package platenref02) does: the same as the program's, in the same words. -/
import Derived.Test.YtlognooioemenaaBv
namespace Go.Proofs.Ytlognooioemenaa
open Go.RowKit
set_option linter.unusedVariables false
set_option linter.unusedSimpArgs false

/-- The lowest L bits of a number, each a byte. -/
def bitL (N L : Nat) : List UInt8 := (List.range L).map fun i => UInt8.ofNat (N / 2 ^ i % 2)
theorem bitL_length (N L : Nat) : (bitL N L).length = L := by simp [bitL]
theorem bitL_succ (N L : Nat) : bitL N (L + 1) = bitL N L ++ [UInt8.ofNat (N / 2 ^ L % 2)] := by simp [bitL, List.range_succ]
theorem bitL_same (N n L : Nat) : bitL (N + n * 2 ^ L) L = bitL N L := by
  unfold bitL
  apply List.map_congr_left
  intro i hi
  have hi' : i < L := List.mem_range.1 hi
  have e : (2:Nat) ^ L = 2 ^ i * 2 ^ (L - i) := by rw [← Nat.pow_add]; congr 1; omega
  have e2 : (2:Nat) ^ (L - i) = 2 * 2 ^ (L - i - 1) := by rw [← Nat.pow_succ']; congr 1; omega
  rw [e, Nat.mul_left_comm, Nat.add_mul_div_left _ _ (Nat.pow_pos (by decide)), e2, Nat.mul_left_comm, Nat.add_mul_mod_self_left]
theorem bitL_get (N L i : Nat) (h : i < L) : (bitL N L)[i]? = some (UInt8.ofNat (N / 2 ^ i % 2)) := by simp [bitL, h]

theorem bit_step (X M t : Nat) (h : X < 2 ^ M) (ht : t < 2) : bitL (X + t * 2 ^ M) (M + 1) = bitL X M ++ [UInt8.ofNat t] ∧ X + t * 2 ^ M < 2 ^ (M + 1) := by
  constructor
  · rw [bitL_succ, bitL_same, Nat.add_mul_div_right _ _ (Nat.pow_pos (by decide)), Nat.div_eq_of_lt h, Nat.zero_add, Nat.mod_eq_of_lt ht]
  · rw [Nat.pow_succ]
    have : t * 2 ^ M ≤ 1 * 2 ^ M := Nat.mul_le_mul_right _ (by omega)
    omega

/-- Block b is the document's writer of the L bits of N, with room for so many bytes. -/
structure Wx (w : World) (b : Nat) (v : Value) (N L most : Nat) : Prop where
  blk : w.heap[b]? = some (.cells #[v, .int .i64 most] 52 (0, 0))
  row : w.ownsRow 0 5 1 v L (Lib.byteCells (bitL N L))
  ne : v.ownBlock ≠ some b
  lt : N < 2 ^ L
theorem Wx.c0 {w : World} {b : Nat} {v : Value} {N L most : Nat} (h : Wx w b v N L most) : w.cell? ⟨b, 0, none⟩ = some v := cell_of h.blk 0
theorem Wx.c1 {w : World} {b : Nat} {v : Value} {N L most : Nat} (h : Wx w b v N L most) : w.cell? ⟨b, 1, none⟩ = some (.int .i64 most) := cell_of h.blk 1
theorem Wx.f0 {w : World} {b : Nat} {v : Value} {N L most : Nat} (h : Wx w b v N L most) : w.frozen? ⟨b, 0, none⟩ = false := free_of h.blk 0
theorem Wx.to {w w' : World} {b : Nat} {v : Value} {N L most : Nat} {l : List Nat} (k : Wx w b v N L most) (f : Fr l w w') (hl : ∀ i, i ∈ wfp b v → i ∉ l) : Wx w' b v N L most :=
  ⟨f.blk k.blk (hl b (by simp [wfp])), ownsRow_to k.row f (fun g hg => hl g (by simp [wfp, hg])), k.ne, k.lt⟩
theorem Wx.inb {w : World} {b : Nat} {v : Value} {N L most : Nat} (k : Wx w b v N L most) : ∀ i, i ∈ wfp b v → i < w.heap.size := fun i hi => by
  simp only [wfp, List.mem_cons, Option.mem_toList] at hi
  rcases hi with rfl | hi
  · exact lt_of k.blk
  · exact (k.row.lt i hi).2
theorem Wx.form {w : World} {b : Nat} {v : Value} {N L most : Nat} (k : Wx w b v N L most) : ∃ ao cap, v = .slice ao L cap := by
  rcases k.row.2 with ⟨h, h0⟩ | ⟨g, cap, cur, h, _⟩
  · exact ⟨none, 0, by rw [h, h0]⟩
  · exact ⟨_, cap, h⟩

set_option maxHeartbeats 400000 in
theorem xroom_any (b : Nat) (v : Value) (N L most size : Nat) (w : World) (hw : Wx w b v N L most) (hL : L ≤ 1000000000) (hz : size ≤ 1000000000) :
    Calls Try.prog 70 #[.pointer (some ⟨b, 0, none⟩), .int .i64 size] w fun e w' => e = .returned (.bool (roomB L size most)) ∧ ∃ n, w' = w.drewN n := by
  have c0 := hw.c0
  have c1 := hw.c1
  obtain ⟨ao, cap, rfl⟩ := hw.form
  have HD : Hid (decide (((L : Int) + (size : Int) + 7) / 8 ≤ (most : Int)) = roomB L size most) := by
    unfold Hid roomB; apply decide_eq_decide.2; omega
  have i1 : (L : Int) ≤ 1000000000 := by omega
  have i3 : (size : Int) ≤ 1000000000 := by omega
  clear hw
  go_enter Try.func70, Try.ntmps70
  go_wp2
  go_quiet (fail)
  go_wp2
  go_ret
  exact ⟨by rw [← HD.out]; rfl, _, rfl⟩

theorem grown_x {w w4 : World} {o : Obj} {b : Nat} {v : Value} {N L most : Nat} (k : Wx w b v N L most) (hgrow : (w.alloc o).grownBy w4 v.ownBlock) : w4.heap[b]? = some (.cells #[v, .int .i64 most] 52 (0, 0)) := by
  have hb := lt_of k.blk
  rw [hgrow.block b (by simp; omega) (fun e => k.ne e.symm), heap_alloc_old w o hb]; exact k.blk

/-- A bit has been put behind the others. -/
theorem put_bit {w w4 : World} {o : Obj} {b : Nat} {v : Value} {N X L most g cap : Nat} {xs : List Value} (k : Wx w b v N L most) (hgrow : (w.alloc o).grownBy w4 v.ownBlock)
    (hown : w4.ownsRow 0 5 1 (.slice (some ⟨g, 0, none⟩) (L + 1) cap) (L + 1) xs) (hxs : xs = Lib.byteCells (bitL X (L + 1))) (hX : X < 2 ^ (L + 1)) (hg : v.ownBlock = some g ∨ g = w.heap.size + 1) :
    Wx (w4.setCell ⟨b, 0, none⟩ (.slice (some ⟨g, 0, none⟩) (L + 1) cap)) b (.slice (some ⟨g, 0, none⟩) (L + 1) cap) X (L + 1) most ∧
      NewRow w v (.slice (some ⟨g, 0, none⟩) (L + 1) cap) ∧ Fr (wfp b v) w (w4.setCell ⟨b, 0, none⟩ (.slice (some ⟨g, 0, none⟩) (L + 1) cap)) := by
  subst hxs
  have hb := lt_of k.blk
  have hsz : (w.alloc o).heap.size = w.heap.size + 1 := by simp
  have hne : (Value.slice (some ⟨g, 0, none⟩) (L + 1) cap).ownBlock ≠ some b := by
    intro e
    have e1 : g = b := by simpa [Value.ownBlock] using e
    subst e1
    rcases hg with hg | hg
    · exact k.ne hg
    · omega
  have hblk := grown_x k hgrow
  have f4 : Fr (wfp b v) w w4 := by
    refine ⟨hgrow.os, hgrow.tape, hgrow.output, ?_, fun i hi hl => ?_⟩
    · have := hgrow.size; omega
    · rw [hgrow.block i (by rw [hsz]; omega) (fun e => hl (by simp [wfp, ← e]))]
      exact heap_alloc_old w o hi
  refine ⟨⟨?_, ownsRow_setCell_other hown hne _, hne, hX⟩, ?_, f4.trans ((Fr.setCell _ _ _ _).mono (by simp [wfp]))⟩
  · have h0 := set_of hblk 0 (.slice (some ⟨g, 0, none⟩) (L + 1) cap)
    simpa using h0
  · rcases hg with hg | hg
    · exact .inl (by rw [hg]; rfl)
    · exact .inr ⟨g, rfl, by omega⟩

set_option maxRecDepth 100000 in
set_option maxHeartbeats 1600000 in
theorem xwbits_ok (b : Nat) (v : Value) (N L most n size : Nat) (w : World) (hw : Wx w b v N L most) (hL : L ≤ 1000000000) (hm : most ≤ 9223372036854775807) (hz : size ≤ 56) (hn : n < 2 ^ size) (hroom : roomB L size most = true) :
    Calls Try.prog 61 #[.pointer (some ⟨b, 0, none⟩), .int .u64 n, .int .i64 size] w fun e w' => e = .returned (.int .i64 0) ∧ ∃ v', Wx w' b v' (N + n * 2 ^ L) (L + size) most ∧ NewRow w v v' ∧ Fr (wfp b v) w w' := by
  have hsh : (n : Int) / 2 ^ size = 0 := by
    have hc : ((2:Int) ^ size) = ((2 ^ size : Nat) : Int) := by simp
    rw [hc, ← Int.natCast_ediv, Nat.div_eq_of_lt hn]; rfl
  have hn64 : n < 2 ^ 64 := Nat.lt_of_lt_of_le hn (Nat.pow_le_pow_right (by decide) (by omega))
  have i1 : 0 ≤ (size : Int) := by omega
  have i2 : (size : Int) ≤ 56 := by omega
  have HW := Lib.hid hw
  clear hw
  go_enter Try.func61, Try.ntmps61
  go_wp2_with fail
  refine (xroom_any b v N L most size _ HW.out hL (by omega)).mono ?_
  rintro e w2 ⟨rfl, n1, rfl⟩
  rw [hroom]
  go_wp2_with fail
  go_loopw [1, 7] (fun x i wr => ∃ (k : Nat) (v' : Value), k ≤ size ∧ i = .int .i64 k ∧ x = .int .u64 ((n / 2 ^ k : Nat) : Int) ∧ Wx wr b v' (N + n % 2 ^ k * 2 ^ L) (L + k) most ∧ NewRow w v v' ∧ Fr (wfp b v) w wr) (fun _ i _ => size - (intOf i).toNat)
  case atStart => exact ⟨0, v, Nat.zero_le _, rfl, by simp, by simpa [Nat.mod_one] using HW.out.to (Fr.drewN [] _ n1) (by simp), NewRow.refl _ _, Fr.drewN _ _ _⟩
  case round =>
    obtain ⟨k, v', hk, rfl, rfl, hX, hN, hF⟩ := hrel
    by_cases hlt : k < size
    · obtain ⟨z, hz'⟩ : ∃ z, n / 2 ^ k = z := ⟨_, rfl⟩
      obtain ⟨t, ht⟩ : ∃ t, z % 2 = t := ⟨_, rfl⟩
      have ht2 : t < 2 := by omega
      have hzt : (z : Int) % 2 = (t : Int) := by omega
      have hzq : IntKind.u64.wrap ((z : Int).tdiv 2) = ((z / 2 : Nat) : Int) := by
        have := Nat.div_le_self n (2 ^ k)
        rw [Int.tdiv_eq_ediv_of_nonneg (by omega), IntKind.wrap_u64]; omega
      have z64 : (z : Int) ≤ 18446744073709551615 := by have := Nat.div_le_self n (2 ^ k); omega
      have z0 : 0 ≤ (z : Int) := by omega
      have c0 := hX.c0
      have f0 := hX.f0
      have hblt : b < wr.heap.size := lt_of hX.blk
      obtain ⟨hs1, hs2⟩ := bit_step _ _ t hX.lt ht2
      have hnum : N + n % 2 ^ (k + 1) * 2 ^ L = N + n % 2 ^ k * 2 ^ L + t * 2 ^ (L + k) := by
        rw [Nat.pow_succ, Nat.mod_mul, hz', ht, Nat.add_mul, Nat.pow_add]
        rw [Nat.add_assoc]; congr 2
        rw [Nat.mul_comm (2 ^ k) t, Nat.mul_assoc, Nat.mul_comm (2 ^ k)]
      have hdiv : n / 2 ^ (k + 1) = z / 2 := by rw [Nat.pow_succ, ← Nat.div_div_eq_div_mul, hz']
      have HNUM := Lib.hid (And.intro hnum (And.intro hdiv (And.intro hs1 hs2)))
      rw [hz']
      have hcb := cell_of (w := wr.alloc (.cells #[.int .u8 (t : Int)] 5)) ((heap_alloc_old wr (.cells #[.int .u8 (t : Int)] 5) hblt).trans hX.blk) 0
      have hc1 : (L + k) + 1 ≤ maxLen := by unfold maxLen; omega
      have hc2 : ((L + k) + 1) * 1 ≤ 140737488355328 := by omega
      have hone : ∀ u ∈ [Value.int .u8 (t : Int)], u.oneCell' = true := by intro u hu; simp at hu; subst hu; rfl
      have hnew := cell_one_new wr (.int .u8 (t : Int)) 5
      have hbt : Lib.byteCells (bitL (N + n % 2 ^ k * 2 ^ L) (L + k)) ++ [.int .u8 (t : Int)] = Lib.byteCells (bitL (N + n % 2 ^ k * 2 ^ L + t * 2 ^ (L + k)) (L + k + 1)) := by
        rw [hs1]; simp [Lib.byteCells, Nat.mod_eq_of_lt (show t < 256 by omega)]
      obtain ⟨i0, hi, hz0, hz1, hz2⟩ := u8info
      have HI0 := Lib.hid hi
      have HIz := Lib.hid hz0
      have HIs := Lib.hid hz1
      have HIb := Lib.hid hz2
      have HROW := Lib.hid hX.row
      have HNEW := Lib.hid hnew
      have HONE := Lib.hid hone
      have HX := Lib.hid hX
      have HBT := Lib.hid hbt
      have HZ := Lib.hid (And.intro hz' ht)
      have j1 : (t : Int) ≤ 1 := by omega
      clear hs1 hs2 hnum hdiv hnew hone hi hz0 hz1 hz2 hX hbt hz' ht hcb
      go_wp2_with (at_builtin; go_must (refine wpList_append_lies _ rfl (.tmp 34) (.tmp 38) 50 rfl 0 5 i0 (.int .u8 0) 1 1 Try.underlying50 HI0.out HIz.out HIs.out HIb.out rfl (by decide) v' (L + k) _ rfl (by exact HROW.out.alloc _) ⟨wr.heap.size, 0, none⟩ 1 1 [.int .u8 (t : Int)] rfl rfl (by exact HNEW.out) HONE.out (by decide) hc1 hc2 (Nat.zero_le _) _ rfl ?_); intro g cap w4 hown4 hgrow4 hg4 hlt4; have k0 : w4.cell? ⟨b, 0, none⟩ = some v' := cell_of (grown_x HX.out hgrow4) 0; have e0 := free_of (grown_x HX.out hgrow4) 0)
      obtain ⟨p1, p2, p3⟩ := put_bit HX.out hgrow4 hown4 HBT.out HNUM.out.2.2.2 (by simpa using hg4)
      go_roundw
      case rel => exact ⟨k + 1, _, by omega, by go_num, by rw [HNUM.out.2.1, Int.natCast_ediv]; rfl, by rw [HNUM.out.1]; exact p1, hN.trans p2 hF.size, hN.out hF p3⟩
      case measure => simp [intOf]; omega
    · have hke : k = size := by omega
      subst hke
      have hX' : N + n % 2 ^ k * 2 ^ L = N + n * 2 ^ L := by rw [Nat.mod_eq_of_lt hn]
      rw [hX'] at hX
      have HX := Lib.hid hX
      clear hX hX'
      go_wp2_with fail
      go_ret
      exact ⟨rfl, v', HX.out, hN, hF⟩

theorem xwbits_err (b : Nat) (v : Value) (N L most n : Nat) (size : Int) (w : World) (hw : Wx w b v N L most) (hL : L ≤ 1000000000) (hm : most ≤ 9223372036854775807) (hn : n < 2 ^ 64) (he : wbE L most n size ≠ 0) :
    Calls Try.prog 61 #[.pointer (some ⟨b, 0, none⟩), .int .u64 n, .int .i64 size] w fun e w' => e = .returned (.int .i64 (wbE L most n size)) ∧ Fr [] w w' := by
  have HW := Lib.hid hw
  clear hw
  by_cases h0 : size < 0 ∨ 56 < size
  · have e : wbE L most n size = 2 := by unfold wbE; rw [if_pos (by rcases h0 with h | h <;> simp [h])]
    rw [e]; clear e he
    rcases h0 with h | h
    all_goals
      go_enter Try.func61, Try.ntmps61
      go_wp2_with fail
      go_ret
      exact ⟨rfl, Fr.refl _ _⟩
  obtain ⟨k, rfl⟩ := Int.eq_ofNat_of_zero_le (show 0 ≤ size by omega)
  have hk : k ≤ 56 := by omega
  have i1 : 0 ≤ (k : Int) := by omega
  have i2 : (k : Int) ≤ 56 := by omega
  have hc : ((2:Int) ^ k) = ((2 ^ k : Nat) : Int) := by simp
  clear h0
  by_cases h1 : 2 ^ k ≤ n
  · have e : wbE L most n k = 2 := by unfold wbE; rw [if_pos (by right; right; simpa using h1)]
    obtain ⟨y, hy⟩ : ∃ y, n / 2 ^ k = y := ⟨_, rfl⟩
    have hyp : 0 < y := by rw [← hy]; exact Nat.div_pos h1 (Nat.pow_pos (by decide))
    have hsh : (n : Int) / 2 ^ k = (y : Int) := by rw [hc, ← Int.natCast_ediv, hy]
    have hne : ((y : Int) != 0) = true := by rw [bne_iff_ne]; omega
    rw [e]; clear e he hy h1 hc
    go_enter Try.func61, Try.ntmps61
    go_wp2_with fail
    go_ret
    exact ⟨rfl, Fr.refl _ _⟩
  · have hroom : roomB L k most = false := by
      cases hr : roomB L k most with
      | false => rfl
      | true => exact absurd (show wbE L most n k = 0 by unfold wbE; rw [if_neg (by simp; omega)]; simp [hr]) he
    have e : wbE L most n k = 4 := by unfold wbE; rw [if_neg (by simp; omega)]; simp [hroom]
    have hsh : (n : Int) / 2 ^ k = 0 := by rw [hc, ← Int.natCast_ediv, Nat.div_eq_of_lt (by omega)]; rfl
    rw [e]; clear e he h1 hc
    go_enter Try.func61, Try.ntmps61
    go_wp2_with fail
    refine (xroom_any b v N L most k _ HW.out hL (by omega)).mono ?_
    rintro e w2 ⟨rfl, n1, rfl⟩
    rw [hroom]
    go_wp2_with fail
    go_ret
    exact ⟨rfl, Fr.drewN _ _ _⟩

set_option maxRecDepth 100000 in
set_option maxHeartbeats 1600000 in
theorem xwalign_any (b : Nat) (v : Value) (N L most : Nat) (w : World) (hw : Wx w b v N L most) (hL : L ≤ 900000000) :
    Calls Try.prog 59 #[.pointer (some ⟨b, 0, none⟩)] w fun e w' => e = .returned (.tuple #[]) ∧ ∃ v', Wx w' b v' N (L + pad L) most ∧ NewRow w v v' ∧ Fr (wfp b v) w w' := by
  have HW := Lib.hid hw
  clear hw
  go_enter Try.func59, Try.ntmps59
  go_wp2_with fail
  go_loopg [] (pad L) (fun g wr => ∃ (k : Nat) (v' : Value), g = pad L - k ∧ k ≤ pad L ∧ Wx wr b v' N (L + k) most ∧ NewRow w v v' ∧ Fr (wfp b v) w wr)
  case atStart => exact ⟨0, v, rfl, Nat.zero_le _, HW.out, NewRow.refl _ _, Fr.refl _ _⟩
  case round =>
    obtain ⟨k, v', rfl, hk, hX, hN, hF⟩ := hrel
    have c0 := hX.c0
    have f0 := hX.f0
    obtain ⟨M, hM⟩ : ∃ M, L + k = M := ⟨_, rfl⟩
    have hp8 : pad L < 8 := by unfold pad; omega
    have hpl : (L + pad L) % 8 = 0 := by unfold pad; omega
    obtain ⟨m, hm⟩ : ∃ m, M % 8 = m := ⟨_, rfl⟩
    have hm' : (M : Int) % 8 = (m : Int) := by omega
    have hM9 : (M : Int) ≤ 1000000000 := by omega
    obtain ⟨ao, cap, rfl⟩ := hX.form
    rw [hM] at hX c0 hN
    by_cases hke : k = pad L
    · have hm0 : m = 0 := by omega
      subst hm0
      have HX := Lib.hid hX
      have HM := Lib.hid (And.intro hM hke)
      clear hM hX hm hke
      go_wp2_with fail
      go_end0
      exact ⟨rfl, _, by rw [← HM.out.2, HM.out.1]; exact HX.out, hN, hF⟩
    · have hkl : k + 1 ≤ pad L := by omega
      have hne : ((m : Int) != 0) = true := by
        rw [bne_iff_ne]
        have : pad L = (8 - L % 8) % 8 := rfl
        omega
      have hblt : b < wr.heap.size := lt_of hX.blk
      obtain ⟨hs1, hs2⟩ := bit_step _ _ 0 hX.lt (by decide)
      rw [Nat.zero_mul, Nat.add_zero] at hs1 hs2
      have hc1 : M + 1 ≤ maxLen := by unfold maxLen; omega
      have hc2 : (M + 1) * 1 ≤ 140737488355328 := by omega
      have hone : ∀ u ∈ [Value.int .u8 0], u.oneCell' = true := by intro u hu; simp at hu; subst hu; rfl
      have hnew := cell_one_new wr (.int .u8 0) 5
      have hbt : Lib.byteCells (bitL N M) ++ [.int .u8 0] = Lib.byteCells (bitL N (M + 1)) := by
        rw [hs1]; simp [Lib.byteCells]
      obtain ⟨i0, hi, hz0, hz1, hz2⟩ := u8info
      have HI0 := Lib.hid hi
      have HIz := Lib.hid hz0
      have HIs := Lib.hid hz1
      have HIb := Lib.hid hz2
      have HROW := Lib.hid hX.row
      have HNEW := Lib.hid hnew
      have HONE := Lib.hid hone
      have HX := Lib.hid hX
      have HBT := Lib.hid hbt
      have HM := Lib.hid (And.intro hM hm)
      clear hs1 hnew hone hi hz0 hz1 hz2 hX hbt hM hm hpl
      go_wp2_with (at_builtin; go_must (refine wpList_append_lies _ rfl (.tmp 13) (.tmp 14) 50 rfl 0 5 i0 (.int .u8 0) 1 1 Try.underlying50 HI0.out HIz.out HIs.out HIb.out rfl (by decide) (.slice ao M cap) M _ rfl (by exact HROW.out.alloc _) ⟨wr.heap.size, 0, none⟩ 1 1 [.int .u8 0] rfl rfl (by exact HNEW.out) HONE.out (by decide) hc1 hc2 (Nat.zero_le _) _ rfl ?_); intro g cap4 w4 hown4 hgrow4 hg4 hlt4; have k0 := cell_of (grown_x HX.out hgrow4) 0; have e0 := free_of (grown_x HX.out hgrow4) 0)
      obtain ⟨p1, p2, p3⟩ := put_bit HX.out hgrow4 hown4 HBT.out hs2 (by simpa using hg4)
      go_roundg (pad L - (k + 1))
      case measure => omega
      case rel => exact ⟨k + 1, _, rfl, hkl, by rw [← Nat.add_assoc, HM.out.1]; exact p1, hN.trans p2 hF.size, hN.out hF p3⟩

set_option maxHeartbeats 400000 in
theorem xwnew_any (most : Int) (w : World) (hm : most ≤ 9223372036854775807) :
    Calls Try.prog 34 #[.int .i64 most] w fun e w' => e = .returned (.pointer (some ⟨w.heap.size, 0, none⟩)) ∧ Wx w' w.heap.size (.slice none 0 0) 0 0 most.toNat ∧ Fr [] w w' := by
  by_cases h0 : most < 0
  · rw [show most.toNat = 0 by omega]
    go_enter Try.func34, Try.ntmps34
    go_wp2
    go_ret
    refine ⟨rfl, ⟨?_, World.ownsRow_nil _ _ _ _, by simp [Value.ownBlock], by simp⟩, Fr.alloc _ _ _⟩
    exact new_of w _
  · obtain ⟨m, rfl⟩ := Int.eq_ofNat_of_zero_le (show 0 ≤ most by omega)
    rw [Int.toNat_natCast]
    go_enter Try.func34, Try.ntmps34
    go_wp2
    go_ret
    refine ⟨rfl, ⟨?_, World.ownsRow_nil _ _ _ _, by simp [Value.ownBlock], by simp⟩, Fr.alloc _ _ _⟩
    exact new_of w _
end Go.Proofs.Ytlognooioemenaa
