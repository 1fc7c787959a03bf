/- The statements of chapter 03 that speak of one reader: the walks of their Go functions, by the contracts of the reader's calls. -/
import Derived.Test.YtlognooioemenaaBr
import Derived.OpenShut
namespace Go.Proofs.Ytlognooioemenaa
open Go.RowKit
set_option linter.unusedVariables false
set_option linter.unusedSimpArgs false

def five : ByteArray := ⟨#[5]⟩
theorem five_size : five.size = 1 := rfl

set_option maxHeartbeats 800000 in
theorem alive03 (w : World) : Calls Try.prog 19 #[] w fun e w' => e = .returned (.bool true) ∧ Below w.heap.size w w' := by
  go_enter Try.func19, Try.ntmps19
  go_wp2_with fail
  refine (rnew_any five w).mono ?_
  rintro e w1 ⟨rfl, h1, f1⟩
  have hs : five.size ≤ 1000000000 := by decide
  go_wp2_with fail
  refine (bits_any w.heap.size five 0 1 w1 h1 hs (by decide)).mono ?_
  rintro e w2 ⟨rfl, h2, f2⟩
  rw [show bitsE five 0 1 = 0 by decide] at h2 ⊢
  rw [show bitsN five 0 1 = 1 by decide +kernel]
  replace h2 : Rd w2 w.heap.size five 1 := h2
  go_wp2_with fail
  refine (peek_any w.heap.size five 1 9 w2 h2 hs (by decide) (by decide)).mono ?_
  rintro e w3 ⟨rfl, f3⟩
  rw [show peekN five 1 9 = 2 by decide +kernel, show peekH five 1 9 = 7 by decide]
  have h3 := h2.to f3 (by simp)
  go_wp2_with fail
  refine (bits_any w.heap.size five 1 2 w3 h3 hs (by decide)).mono ?_
  rintro e w4 ⟨rfl, h4, f4⟩
  rw [show bitsE five 1 2 = 0 by decide] at h4 ⊢
  rw [show bitsN five 1 2 = 2 by decide +kernel]
  replace h4 : Rd w4 w.heap.size five 3 := h4
  go_wp2_with fail
  refine (bits_any w.heap.size five 3 6 w4 h4 hs (by decide)).mono ?_
  rintro e w5 ⟨rfl, h5, f5⟩
  rw [show bitsE five 3 6 = 6 by decide] at h5 ⊢
  rw [show bitsN five 3 6 = 0 by decide +kernel]
  replace h5 : Rd w5 w.heap.size five 3 := h5
  go_wp2_with fail
  refine (at_any w.heap.size five 3 w5 h5).mono ?_
  rintro e w6 ⟨rfl, rfl⟩
  go_wp2_with fail
  refine (left_any w.heap.size five 3 w6 h5 hs (by decide)).mono ?_
  rintro e w7 ⟨rfl, n, rfl⟩
  go_wp2_with fail
  go_ret
  refine ⟨rfl, ?_⟩
  have hb1 : Below w.heap.size w w1 := f1.below
  have hb2 := f2.out hb1 (by simp)
  have hb3 := f3.out hb2 (by simp)
  have hb4 := f4.out hb3 (by simp)
  have hb5 := f5.out hb4 (by simp)
  exact (Fr.drewN [] w6 n).out hb5 (by simp)

theorem peekN_all (s : ByteArray) (a k : Nat) (h : a + k ≤ 8 * s.size) : peekN s a k = num s / 2 ^ a % 2 ^ k := by
  unfold peekN peekH; rw [show min k (8 * s.size - a) = k by omega]

/-- Bits that are read in two pieces, put together. -/
theorem pieces_or (s : ByteArray) (p k c : Nat) (hp : p ≤ 8 * s.size) (he : p + k ≤ 8 * s.size) (hk : k ≤ 56) (hc : c ≤ k) :
    bits .or .u64 (peekN s p c : Int) (IntKind.u64.wrap ((peekN s (p + c) (k - c) : Int) * 2 ^ c)) = (peekN s p k : Int) := by
  rw [peekN_all s p c (by omega), peekN_all s (p + c) (k - c) (by omega), peekN_all s p k he]
  have hx : num s / 2 ^ p % 2 ^ c < 2 ^ c := Nat.mod_lt _ (Nat.pow_pos (by decide))
  have hy : num s / 2 ^ (p + c) % 2 ^ (k - c) < 2 ^ (k - c) := Nat.mod_lt _ (Nat.pow_pos (by decide))
  generalize hX : num s / 2 ^ p % 2 ^ c = x at *
  generalize hY : num s / 2 ^ (p + c) % 2 ^ (k - c) = y at *
  have hyk : y * 2 ^ c < 2 ^ k := by
    have : y * 2 ^ c < 2 ^ (k - c) * 2 ^ c := Nat.mul_lt_mul_of_pos_right hy (Nat.pow_pos (by decide))
    rwa [← Nat.pow_add, show k - c + c = k by omega] at this
  have hk64 : (2:Nat) ^ k ≤ 2 ^ 56 := Nat.pow_le_pow_right (by decide) hk
  have hc64 : (2:Nat) ^ c ≤ 2 ^ 56 := Nat.pow_le_pow_right (by decide) (by omega)
  have e2 : IntKind.u64.wrap ((y : Int) * 2 ^ c) = ((y * 2 ^ c : Nat) : Int) := by
    have hcc : ((2:Int) ^ c) = ((2 ^ c : Nat) : Int) := by simp
    rw [hcc, ← Int.natCast_mul, IntKind.wrap_u64, Int.emod_eq_of_lt (by omega) (by omega)]
  rw [e2, or_low x y c hx (by omega) (by omega)]
  congr 1
  rw [← hX, ← hY, Nat.pow_add, ← Nat.div_div_eq_div_mul]
  have ek : (2:Nat) ^ k = 2 ^ c * 2 ^ (k - c) := by rw [← Nat.pow_add]; congr 1; omega
  rw [ek, Nat.mod_mul, Nat.mul_comm (2 ^ c)]

set_option maxHeartbeats 1600000 in
theorem bitrPieces_walk (s : ByteArray) (a1 a2 a3 : Int) (w0 : s.size ≤ maxLen) (w1 : (Lit.int .u16 a1).wf = true) (w2 : (Lit.int .u8 a2).wf = true) (w3 : (Lit.int .u8 a3).wf = true) (w : World) :
    Calls Try.prog 3 #[.string s, .int .u16 a1, .int .u8 a2, .int .u8 a3] w fun e w' => e = .returned (.bool true) ∧ Below w.heap.size w w' := by
  by_cases hbig : 4096 < s.size
  · have hbig' : (4096 : Int) < (s.size : Int) := by omega
    go_enter Try.func3, Try.ntmps3
    go_wp2_with fail
    refine (alive03 w).mono ?_
    rintro e w' ⟨rfl, hb⟩
    go_wp2_with fail
    go_ret
    exact ⟨rfl, hb⟩
  obtain ⟨b0, b1⟩ := bounds_u16 w1
  obtain ⟨b2, b3⟩ := bounds_u8 w2
  obtain ⟨b4, b5⟩ := bounds_u8 w3
  clear w1 w2 w3 w0
  obtain ⟨k, hk⟩ : ∃ k : Nat, a2 % 57 = (k : Int) := ⟨(a2 % 57).toNat, by omega⟩
  have hk56 : k ≤ 56 := by omega
  obtain ⟨c, hc⟩ : ∃ c : Nat, a3 % ((k : Int) + 1) = (c : Int) := ⟨(a3 % ((k : Int) + 1)).toNat, by have := Int.emod_nonneg a3 (show (k : Int) + 1 ≠ 0 by omega); omega⟩
  have hck : c ≤ k := by have := Int.emod_lt_of_pos a3 (show 0 < (k : Int) + 1 by omega); omega
  obtain ⟨p, hp⟩ : ∃ p : Nat, a1 % (8 * (s.size : Int) + 1) = (p : Int) := ⟨(a1 % (8 * (s.size : Int) + 1)).toNat, by have := Int.emod_nonneg a1 (show 8 * (s.size : Int) + 1 ≠ 0 by omega); omega⟩
  have hpl : p ≤ 8 * s.size := by have := Int.emod_lt_of_pos a1 (show 0 < 8 * (s.size : Int) + 1 by omega); omega
  have hs4 : s.size ≤ 4096 := by omega
  have hs : s.size ≤ 1000000000 := by omega
  have i1 : (k : Int) ≤ 56 := by omega
  have i2 : (c : Int) ≤ (k : Int) := by omega
  have i3 : (p : Int) ≤ 8 * (s.size : Int) := by omega
  have i4 : (s.size : Int) ≤ 4096 := by omega
  clear hbig
  go_enter Try.func3, Try.ntmps3
  go_wp2_with fail
  refine (rnew_any s w).mono ?_
  rintro e w1 ⟨rfl, h1, f1⟩
  go_wp2_with fail
  refine (rnew_any s w1).mono ?_
  rintro e w2 ⟨rfl, h2, f2⟩
  have n12 : w.heap.size < w1.heap.size := lt_of h1
  have g2 := f2.out f1.below (by simp)
  replace h1 := h1.to f2 (by simp)
  clear f1 f2
  have hsk : skipE s 0 (p : Int) = 0 := by unfold skipE; rw [if_neg (by omega), if_neg (by omega)]
  have HSK := Lib.hid hsk
  clear hsk
  go_wp2_with fail
  refine (skip_any _ s 0 (p : Int) w2 h1 hs (by omega)).mono ?_
  rintro e w3 ⟨rfl, h3, f3⟩
  rw [HSK.out] at h3 ⊢
  replace h3 : Rd w3 w.heap.size s p := by simpa using h3
  replace h2 := h2.to f3 (by simp; omega)
  have g3 := f3.out g2 (by simp)
  go_wp2_with fail
  refine (skip_any _ s 0 (p : Int) w3 h2 hs (by omega)).mono ?_
  rintro e w4 ⟨rfl, h4, f4⟩
  rw [HSK.out] at h4 ⊢
  replace h4 : Rd w4 w1.heap.size s p := by simpa using h4
  replace h3 := h3.to f4 (by simp; omega)
  have g4 := f4.out g3 (by simp; omega)
  clear h1 h2 f3 f4 g2 g3
  go_wp2_with fail
  by_cases hend : 8 * s.size - p < k
  · have he : bitsE s p (k : Int) = 6 := by unfold bitsE; rw [if_neg (by omega), if_pos (by omega)]
    have hend' : 8 * (s.size : Int) - (p : Int) < (k : Int) := by omega
    refine (bits_any _ s p (k : Int) w4 h3 hs hpl).mono ?_
    rintro e w5 ⟨rfl, h5, f5⟩
    rw [he] at h5 ⊢
    replace h5 : Rd w5 w.heap.size s p := by simpa using h5
    have g5 := f5.out g4 (by simp)
    clear he
    go_wp2_with fail
    refine (at_any _ s p w5 h5).mono ?_
    rintro e w6 ⟨rfl, rfl⟩
    go_wp2_with fail
    refine (alive03 w6).mono ?_
    rintro e w7 ⟨rfl, hb⟩
    go_wp2_with fail
    go_ret
    exact ⟨rfl, (Fr.of_below (l := []) hb).out g5 (by simp)⟩
  · have he : bitsE s p (k : Int) = 0 := by unfold bitsE; rw [if_neg (by omega), if_neg (by omega)]
    have he1 : bitsE s p (c : Int) = 0 := by unfold bitsE; rw [if_neg (by omega), if_neg (by omega)]
    have he2 : bitsE s (p + c) ((k : Int) - (c : Int)) = 0 := by unfold bitsE; rw [if_neg (by omega), if_neg (by omega)]
    have hn : bitsN s p (k : Int) = peekN s p k := by unfold bitsN; rw [if_pos he]; simp
    have hn1 : bitsN s p (c : Int) = peekN s p c := by unfold bitsN; rw [if_pos he1]; simp
    have hn2 : bitsN s (p + c) ((k : Int) - (c : Int)) = peekN s (p + c) (k - c) := by unfold bitsN; rw [if_pos he2]; congr 1; omega
    have HOR := Lib.hid (pieces_or s p k c hpl (by omega) hk56 hck)
    have hend' : (p : Int) + (k : Int) ≤ 8 * (s.size : Int) := by omega
    refine (bits_any _ s p (k : Int) w4 h3 hs hpl).mono ?_
    rintro e w5 ⟨rfl, h5, f5⟩
    rw [he, hn] at *
    replace h5 : Rd w5 w.heap.size s (p + k) := by simpa using h5
    replace h4 := h4.to f5 (by simp; omega)
    have g5 := f5.out g4 (by simp)
    have H1 := Lib.hid (And.intro he1 hn1)
    have H2 := Lib.hid (And.intro he2 hn2)
    clear he hn he1 hn1 he2 hn2
    go_wp2_with fail
    refine (bits_any _ s p (c : Int) w5 h4 hs hpl).mono ?_
    rintro e w6 ⟨rfl, h6, f6⟩
    rw [H1.out.1] at h6 ⊢
    rw [H1.out.2]
    replace h6 : Rd w6 w1.heap.size s (p + c) := by simpa using h6
    replace h5 := h5.to f6 (by simp; omega)
    have g6 := f6.out g5 (by simp; omega)
    go_wp2_with fail
    refine (bits_any _ s (p + c) _ w6 h6 hs (by omega)).mono ?_
    rintro e w7 ⟨rfl, h7, f7⟩
    rw [H2.out.1] at h7 ⊢
    rw [H2.out.2]
    replace h7 : Rd w7 w1.heap.size s (p + k) := by
      have e0 : p + c + (k - c) = p + k := by omega
      simpa [e0] using h7
    replace h5 := h5.to f7 (by simp; omega)
    have g7 := f7.out g6 (by simp; omega)
    clear h3 h4 h6 f5 f6 f7 g4 g5 g6
    have hor := HOR.out
    go_wp2_with fail
    refine (at_any _ s (p + k) w7 h5).mono ?_
    rintro e w8 ⟨rfl, rfl⟩
    go_wp2_with fail
    refine (at_any _ s (p + k) w8 h7).mono ?_
    rintro e w8 ⟨rfl, rfl⟩
    go_wp2_with fail
    refine (at_any _ s (p + k) w8 h5).mono ?_
    rintro e w8 ⟨rfl, rfl⟩
    go_wp2_with fail
    refine (left_any _ s (p + k) w8 h5 hs (by omega)).mono ?_
    rintro e w9 ⟨rfl, n, rfl⟩
    go_wp2_with fail
    refine (alive03 _).mono ?_
    rintro e w10 ⟨rfl, hb⟩
    go_wp2_with fail
    go_ret
    exact ⟨rfl, (Fr.of_below (l := []) hb).out ((Fr.drewN [] _ n).out g7 (by simp)) (by simp)⟩
end Go.Proofs.Ytlognooioemenaa
