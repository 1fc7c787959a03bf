/- The statement BitrWhole: the walk of its Go function. -/
import Derived.Test.YtlognooioemenaaLr
import Derived.Test.YtlognooioemenaaSl
namespace Go.Proofs.Ytlognooioemenaa
open Go.RowKit
set_option linter.unusedVariables false
set_option linter.unusedSimpArgs false

/-- Whatever a reader is asked, it stands no less far on, within its text. -/
def On (b : Nat) (s : ByteArray) (a : Nat) (w : World) (e : Ending) (w' : World) : Prop := (∃ v, e = .returned v) ∧ ∃ a', a ≤ a' ∧ a' ≤ 8 * s.size ∧ Rd w' b s a' ∧ Fr [b] w w'

theorem on_peek (b : Nat) (s : ByteArray) (a : Nat) (n : Int) (w : World) (hb : Rd w b s a) (hs : s.size ≤ 1000000000) (ha : a ≤ 8 * s.size) :
    Calls Try.prog 40 #[.pointer (some ⟨b, 0, none⟩), .int .i64 n] w (On b s a w) := by
  by_cases h : n < 0 ∨ 56 < n
  · refine (peek_bad b n w h).mono ?_
    rintro e w' ⟨rfl, rfl⟩
    exact ⟨⟨_, rfl⟩, a, Nat.le_refl _, ha, hb, Fr.refl _ _⟩
  · obtain ⟨m, rfl⟩ := Int.eq_ofNat_of_zero_le (show 0 ≤ n by omega)
    refine (peek_any b s a m w hb hs ha (by omega)).mono ?_
    rintro e w' ⟨rfl, hf⟩
    exact ⟨⟨_, rfl⟩, a, Nat.le_refl _, ha, hb.to hf (by simp), hf.nil⟩
theorem on_skip (b : Nat) (s : ByteArray) (a : Nat) (n : Int) (w : World) (hb : Rd w b s a) (hs : s.size ≤ 1000000000) (ha : a ≤ 8 * s.size) :
    Calls Try.prog 21 #[.pointer (some ⟨b, 0, none⟩), .int .i64 n] w (On b s a w) := by
  refine (skip_any b s a n w hb hs ha).mono ?_
  rintro e w' ⟨rfl, hr, hf⟩
  refine ⟨⟨_, rfl⟩, _, ?_, ?_, hr, hf⟩
  · split <;> omega
  · split
    · rename_i h; unfold skipE at h; split at h
      · omega
      · split at h <;> omega
    · exact ha
theorem on_align (b : Nat) (s : ByteArray) (a : Nat) (w : World) (hb : Rd w b s a) (hs : s.size ≤ 1000000000) (ha : a ≤ 8 * s.size) :
    Calls Try.prog 42 #[.pointer (some ⟨b, 0, none⟩)] w (On b s a w) := by
  refine (align_any b s a w hb hs ha).mono ?_
  rintro e w' ⟨rfl, hr, hf⟩
  exact ⟨⟨_, rfl⟩, _, by unfold alignA; omega, by unfold alignA; omega, hr, hf⟩
theorem on_bytes (b : Nat) (s : ByteArray) (a : Nat) (n : Int) (w : World) (hb : Rd w b s a) (hs : s.size ≤ 1000000000) (ha : a ≤ 8 * s.size) :
    Calls Try.prog 41 #[.pointer (some ⟨b, 0, none⟩), .int .i64 n] w (On b s a w) := by
  refine (bytes_any b s a n w hb hs ha).mono ?_
  rintro e w' ⟨rfl, hr, hf⟩
  refine ⟨⟨_, rfl⟩, _, ?_, ?_, hr, hf⟩
  · unfold alignA; split <;> omega
  · split
    · rename_i h; unfold bytesE at h; unfold alignA; split at h
      · omega
      · split at h <;> omega
    · exact ha
theorem on_bits (b : Nat) (s : ByteArray) (a : Nat) (n : Int) (w : World) (hb : Rd w b s a) (hs : s.size ≤ 1000000000) (ha : a ≤ 8 * s.size) :
    Calls Try.prog 22 #[.pointer (some ⟨b, 0, none⟩), .int .i64 n] w (On b s a w) := by
  refine (bits_any b s a n w hb hs ha).mono ?_
  rintro e w' ⟨rfl, hr, hf⟩
  refine ⟨⟨_, rfl⟩, _, ?_, ?_, hr, hf⟩
  · split <;> omega
  · split
    · rename_i h; unfold bitsE at h; split at h
      · omega
      · split at h <;> omega
    · exact ha

theorem one_bit (s : ByteArray) (i j : Nat) (hi : i < s.size) (hj : j < 8) : bitsE s (8 * i + j) 1 = 0 ∧ bits .and .u64 (IntKind.u64.wrap (s[i].toNat : Int) / 2 ^ j) 1 = (bitsN s (8 * i + j) 1 : Int) := by
  rw [show IntKind.u64.wrap (s[i].toNat : Int) = (s[i].toNat : Int) by have := (s[i]).toNat_lt; rw [IntKind.wrap_u64]; omega]
  have h0 : bitsE s (8 * i + j) 1 = 0 := by unfold bitsE; rw [if_neg (by omega), if_neg (by omega)]
  refine ⟨h0, ?_⟩
  have hc : ((2:Int) ^ j) = ((2 ^ j : Nat) : Int) := by simp
  have hb := (s[i]).toNat_lt
  have hm := and_mask ((s[i]).toNat / 2 ^ j) 1 (Nat.lt_of_le_of_lt (Nat.div_le_self _ _) (by omega)) (by decide)
  rw [hc, ← Int.natCast_ediv]
  simp only [Nat.pow_one] at hm
  rw [show bits .and .u64 (((s[i]).toNat / 2 ^ j : Nat) : Int) 1 = (((s[i]).toNat / 2 ^ j % 2 : Nat) : Int) from hm]
  unfold bitsN
  rw [if_pos h0]
  congr 1
  rw [show (1 : Int).toNat = 1 from rfl, peekN_all s (8 * i + j) 1 (by omega)]
  have hg := numL_get s.data.toList i (by simpa using hi)
  have hg' : (s[i]).toNat = num s / 2 ^ (8 * i) % 256 := by rw [num, ← hg]; rfl
  rw [hg', Nat.pow_add, ← Nat.div_div_eq_div_mul, Nat.pow_one]
  generalize num s / 2 ^ (8 * i) = x
  have e1 : (256 : Nat) = 2 ^ j * 2 ^ (8 - j) := by rw [← Nat.pow_add, show j + (8 - j) = 8 by omega]
  have e2 : (2:Nat) ^ (8 - j) = 2 * 2 ^ (8 - j - 1) := by rw [← Nat.pow_succ']; congr 1; omega
  rw [e1, Nat.mod_mul_right_div_self, e2, Nat.mod_mul_right_mod]

set_option maxRecDepth 100000 in
set_option maxHeartbeats 4000000 in
theorem bitrWhole_walk (w : World) (s : ByteArray) (w0 : s.size ≤ maxLen) (a1 : Option Addr) (c1 : Nat) (x1 : List Call03) (l1 : x1.length ≤ maxLen) (s1 : SlOf Call03.enc Call03.sz w a1 x1) (o1 : ∀ x, x ∈ x1 → x.ok) :
    Calls Try.prog 11 #[.string s, .slice a1 x1.length c1] w fun e w' => e = .returned (.bool true) ∧ Below w.heap.size w w' := by
  have S1 := Lib.hid s1
  have O1 := Lib.hid o1
  clear s1 o1 w0 l1
  by_cases hbig : 512 < s.size
  · have hbig' : (512 : Int) < (s.size : Int) := by omega
    go_enter Try.func11, Try.ntmps11
    go_wp2_with fail
    refine (alive03 w).mono ?_
    rintro e w' ⟨rfl, hb⟩
    go_wp2_with fail
    go_ret
    exact ⟨rfl, hb⟩
  by_cases hmany : 100 < x1.length
  · have hbig' : (s.size : Int) ≤ 512 := by omega
    have hmany' : (100 : Int) < (x1.length : Int) := by omega
    go_enter Try.func11, Try.ntmps11
    go_wp2_with fail
    refine (alive03 w).mono ?_
    rintro e w' ⟨rfl, hb⟩
    go_wp2_with fail
    go_ret
    exact ⟨rfl, hb⟩
  have i1 : (s.size : Int) ≤ 512 := by omega
  have i2 : (x1.length : Int) ≤ 100 := by omega
  have hs : s.size ≤ 1000000000 := by omega
  clear hbig hmany
  go_enter Try.func11, Try.ntmps11
  go_wp2_with fail
  refine (rnew_any s w).mono ?_
  rintro e wa ⟨rfl, h1, f1⟩
  have g1 := f1.below
  go_wp2_with fail
  go_loopw [6] (fun i wr => ∃ k : Nat, k ≤ s.size ∧ i = .int .i64 k ∧ Rd wr w.heap.size s (8 * k) ∧ Below w.heap.size w wr) (fun i _ => s.size - (intOf i).toNat)
  case atStart => exact ⟨0, Nat.zero_le _, rfl, h1, g1⟩
  case round =>
    obtain ⟨k, hk, rfl, hR, hB⟩ := hrel
    by_cases hlt : k < s.size
    · go_wp2_with fail
      obtain ⟨wo, rfl⟩ : ∃ wo : World, wo = wr := ⟨_, rfl⟩
      go_loopw [7] (fun i wr => ∃ j : Nat, j ≤ 8 ∧ i = .int .i64 j ∧ Rd wr w.heap.size s (8 * k + j) ∧ Below w.heap.size w wr) (fun i _ => 8 - (intOf i).toNat)
      case atStart => exact ⟨0, Nat.zero_le _, rfl, hR, hB⟩
      case round =>
        obtain ⟨j, hj, rfl, hR, hB⟩ := hrel
        by_cases hj8 : j < 8
        · obtain ⟨q1, q2⟩ := one_bit s k j hlt hj8
          have Q1 := Lib.hid q1
          have hj8' : (j : Int) < 8 := by omega
          clear q1
          go_wp2_with fail
          refine (bits_any _ s (8 * k + j) 1 _ hR hs (by omega)).mono ?_
          rintro e w2 ⟨rfl, hR2, f2⟩
          rw [Q1.out] at hR2 ⊢
          have hB2 := f2.out hB (by simp)
          go_wp2_with fail
          go_roundw
          case rel => exact ⟨j + 1, by omega, by go_num, by simpa [Nat.add_assoc] using hR2, hB2⟩
          case measure => simp [intOf]; omega
        · have hj8' : ¬ (j : Int) < 8 := by omega
          obtain rfl : j = 8 := by omega
          go_wp2_with fail
          go_roundw
          case rel => exact ⟨k + 1, by omega, by go_num, hR, hB⟩
          case measure => simp [intOf]; omega
    · have hlt' : ¬ (k : Int) < (s.size : Int) := by omega
      clear hR
      go_wp2_with fail
      refine (rnew_any s wr).mono ?_
      rintro e wb ⟨rfl, h2, f2⟩
      have hBs := hB.size
      have g2 := f2.out hB (by simp)
      obtain ⟨wz, rfl⟩ : ∃ wz : World, wz = wr := ⟨_, rfl⟩
      go_wp2_with fail
      go_loopw [11] (fun i wx => ∃ n a : Nat, n ≤ x1.length ∧ i = .int .i64 n ∧ a ≤ 8 * s.size ∧ Rd wx wz.heap.size s a ∧ Below w.heap.size w wx) (fun i _ => x1.length - (intOf i).toNat)
      case atStart => exact ⟨0, 0, Nat.zero_le _, rfl, by omega, h2, g2⟩
      case round =>
        obtain ⟨n, a, hn, rfl, ha, hR, hB3⟩ := hrel
        by_cases hnx : n < x1.length
        · obtain ⟨c, hc⟩ : ∃ c, x1[n]? = some c := ⟨x1[n], List.getElem?_eq_getElem hnx⟩
          obtain ⟨⟨o0, o1⟩, _, _⟩ := O1.out c (List.mem_of_getElem? hc)
          obtain ⟨b, o, rfl, hbl, hcell⟩ := S1.out.below hB3 (by intro h; rw [h] at hnx; simp at hnx)
          have k0 := hcell n c hc 0 (.int .u8 c.act) rfl
          have k1 := hcell n c hc 1 (.int .i64 c.n) rfl
          simp only [Call03.sz, Nat.add_zero] at k0 k1
          rw [← Nat.add_assoc] at k1
          have hm8 : c.act % 8 = 0 ∨ c.act % 8 = 1 ∨ c.act % 8 = 2 ∨ c.act % 8 = 3 ∨ c.act % 8 = 4 ∨ c.act % 8 = 5 ∨ c.act % 8 = 6 ∨ c.act % 8 = 7 := by omega
          have hr1 : n < x1.length := hnx
          clear hcell hc
          rcases hm8 with hm | hm | hm | hm | hm | hm | hm | hm
          all_goals
            go_wp2_with fail
            refine (at_any _ s a wr hR).mono ?_
            rintro e w3 ⟨rfl, rfl⟩
            go_wp2_with fail
            first | (with_reducible refine (on_bits _ s a _ _ hR hs ha).mono ?_) | (with_reducible refine (on_peek _ s a _ _ hR hs ha).mono ?_) | (with_reducible refine (on_skip _ s a _ _ hR hs ha).mono ?_) | (with_reducible refine (on_align _ s a _ hR hs ha).mono ?_) | (with_reducible refine (on_bytes _ s a _ _ hR hs ha).mono ?_)
            rintro e w4 ⟨⟨v, rfl⟩, a', ha1, ha2, hR2, hf2⟩
            have hB4 := hf2.out hB3 (by simp; omega)
            have i3 : (a : Int) ≤ (a' : Int) := by omega
            have i4 : (a' : Int) ≤ 8 * (s.size : Int) := by omega
            have e8 : (a' : Int) + ((8 * s.size - a' : Nat) : Int) = 8 * (s.size : Int) := by omega
            have e9 : 0 ≤ ((8 * s.size - a' : Nat) : Int) := by omega
            have i5 : ((8 * s.size - a' : Nat) : Int) ≤ 8 * (s.size : Int) := by omega
            have E8 := Lib.hid e8
            clear e8
            go_wp2_with fail
            refine (at_any _ s a' w4 hR2).mono ?_
            rintro e w5 ⟨rfl, rfl⟩
            go_wp2_with fail
            refine (at_any _ s a' w5 hR2).mono ?_
            rintro e w6 ⟨rfl, rfl⟩
            go_wp2_with fail
            refine (left_any _ s a' w6 hR2 hs ha2).mono ?_
            rintro e w7 ⟨rfl, m1, rfl⟩
            have e8 := E8.out
            go_wp2_with fail
            refine (left_any _ s a' _ (hR2.to (Fr.drewN [] _ m1) (by simp)) hs ha2).mono ?_
            rintro e w8 ⟨rfl, m2, rfl⟩
            go_wp2_with fail
            go_roundw
            case rel => exact ⟨n + 1, a', by omega, by go_num, ha2, hR2.to (Fr.drewN [] w6 (m1 + m2)) (by simp), (Fr.drewN [] w6 (m1 + m2)).out hB4 (by simp)⟩
            case measure => simp [intOf]; omega
        · have hnx' : ¬ (n : Int) < (x1.length : Int) := by omega
          go_wp2_with fail
          refine (alive03 _).mono ?_
          rintro e w9 ⟨rfl, hb⟩
          go_wp2_with fail
          go_ret
          exact ⟨rfl, (Fr.of_below (l := []) hb).out hB3 (by simp)⟩
end Go.Proofs.Ytlognooioemenaa
