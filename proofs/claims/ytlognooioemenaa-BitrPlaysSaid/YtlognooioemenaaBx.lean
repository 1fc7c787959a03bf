/- What each call of the document's reader (package platenref03) does: the same as the program's, in the same words. -/
import Derived.Test.YtlognooioemenaaLr
import Derived.Deep.LoopGhost
namespace Go.Proofs.Ytlognooioemenaa
open Go.RowKit
set_option linter.unusedVariables false
set_option linter.unusedSimpArgs false

/-- Block b is the document's reader of s that stands behind a bits. -/
def Rx (w : World) (b : Nat) (s : ByteArray) (a : Nat) : Prop := w.heap[b]? = some (.cells #[.string s, .int .i64 a] 62 (0, 0))
theorem Rx.c0 {w : World} {b : Nat} {s : ByteArray} {a : Nat} (h : Rx w b s a) : w.cell? ⟨b, 0, none⟩ = some (.string s) := cell_of h 0
theorem Rx.c1 {w : World} {b : Nat} {s : ByteArray} {a : Nat} (h : Rx w b s a) : w.cell? ⟨b, 1, none⟩ = some (.int .i64 a) := cell_of h 1
theorem Rx.f1 {w : World} {b : Nat} {s : ByteArray} {a : Nat} (h : Rx w b s a) : w.frozen? ⟨b, 1, none⟩ = false := free_of h 1
theorem Rx.to {w w' : World} {b : Nat} {s : ByteArray} {a : Nat} {l : List Nat} (h : Rx w b s a) (k : Fr l w w') (hb : b ∉ l) : Rx w' b s a := k.blk h hb
theorem Rx.set {w : World} {b : Nat} {s : ByteArray} {a : Nat} (h : Rx w b s a) (c : Nat) : Rx (w.setCell ⟨b, 1, none⟩ (.int .i64 c)) b s c := by
  have := set_of h 1 (.int .i64 c); simpa [Rx] using this

set_option maxHeartbeats 400000 in
theorem xleft_any (b : Nat) (s : ByteArray) (a : Nat) (w : World) (hb : Rx w b s a) (hs : s.size ≤ 1000000000) (ha : a ≤ 8 * s.size) :
    Calls Try.prog 39 #[.pointer (some ⟨b, 0, none⟩)] w fun e w' => e = .returned (.int .i64 ((8 * s.size - a : Nat) : Int)) ∧ ∃ n, w' = w.drewN n := by
  have c0 := hb.c0
  have c1 := hb.c1
  have ha' : (a : Int) ≤ 8 * (s.size : Int) := by omega
  have hs' : (s.size : Int) ≤ 1000000000 := by omega
  clear hb
  go_enter Try.func39, Try.ntmps39
  go_wp2
  go_quiet (fail)
  go_wp2
  go_ret
  exact ⟨ret_int (by omega), _, rfl⟩

/-- The bit so far on. -/
def bitN (s : ByteArray) (i : Nat) : Nat := num s / 2 ^ i % 2
theorem bit_is (s : ByteArray) (i k j : Nat) (hk : i / 8 = k) (hj : i % 8 = j) (hi : k < s.size) : (IntKind.u64.wrap (s[k].toNat : Int) / 2 ^ j) % 2 = (bitN s i : Int) := by
  subst hk hj
  have hb := (s[i / 8]).toNat_lt
  rw [show IntKind.u64.wrap (s[i / 8].toNat : Int) = (s[i / 8].toNat : Int) by rw [IntKind.wrap_u64]; omega]
  have hc : ((2:Int) ^ (i % 8)) = ((2 ^ (i % 8) : Nat) : Int) := by simp
  have hg := numL_get s.data.toList (i / 8) (by simpa using hi)
  have hg' : (s[i / 8]).toNat = num s / 2 ^ (8 * (i / 8)) % 256 := by rw [num, ← hg]; rfl
  rw [hc, hg', bitN]
  have e0 : (2:Nat) ^ i = 2 ^ (8 * (i / 8)) * 2 ^ (i % 8) := by rw [← Nat.pow_add]; congr 1; omega
  rw [e0, ← Nat.div_div_eq_div_mul]
  generalize num s / 2 ^ (8 * (i / 8)) = x
  have hj : i % 8 < 8 := by omega
  generalize i % 8 = j at *
  have e1 : (256 : Nat) = 2 ^ j * 2 ^ (8 - j) := by rw [← Nat.pow_add, show j + (8 - j) = 8 by omega]
  have e2 : (2:Nat) ^ (8 - j) = 2 * 2 ^ (8 - j - 1) := by rw [← Nat.pow_succ']; congr 1; omega
  rw [← Int.natCast_ediv, e1, Nat.mod_mul_right_div_self, e2]
  have e3 : (x / 2 ^ j) % (2 * 2 ^ (8 - j - 1)) % 2 = x / 2 ^ j % 2 := Nat.mod_mul_right_mod _ _ _
  omega

set_option maxHeartbeats 400000 in
theorem xbit_any (b : Nat) (s : ByteArray) (a : Nat) (i : Nat) (w : World) (hb : Rx w b s a) (hs : s.size ≤ 1000000000) (ha : a + i < 8 * s.size) :
    Calls Try.prog 71 #[.pointer (some ⟨b, 0, none⟩), .int .i64 i] w fun e w' => e = .returned (.int .u64 (bitN s (a + i) : Int)) ∧ ∃ n, w' = w.drewN n := by
  have c0 := hb.c0
  have c1 := hb.c1
  have g0 : ((a : Int) + (i : Int)) < 8 * (s.size : Int) := by omega
  have g1 : (s.size : Int) ≤ 1000000000 := by omega
  obtain ⟨k, hk⟩ : ∃ k : Nat, (a + i) / 8 = k := ⟨_, rfl⟩
  obtain ⟨j, hj⟩ : ∃ j : Nat, (a + i) % 8 = j := ⟨_, rfl⟩
  have hi : k < s.size := by omega
  have HQ := Lib.hid (bit_is s (a + i) k j hk hj hi)
  have q1 : ((a : Int) + (i : Int)) / 8 = (k : Int) := by omega
  have q2 : ((a : Int) + (i : Int)) % 8 = (j : Int) := by omega
  clear hk hj
  have hrun := fun (x : World) => run_index_text (P := Try.prog) x 9 s .i64 k Try.underlying9 hi
  clear hb
  go_enter Try.func71, Try.ntmps71
  go_wp2
  go_quiet (fail)
  go_wp2
  go_ret
  exact ⟨ret_int HQ.out, _, rfl⟩

theorem Rx.drewN {w : World} {b : Nat} {s : ByteArray} {a : Nat} (h : Rx w b s a) (n : Nat) : Rx (w.drewN n) b s a := h

/-- The bits from i on up to h, as a number: one bit more ahead. -/
theorem high_step (x h i : Nat) (hi : i < h) : 2 * (x / 2 ^ (i + 1) % 2 ^ (h - (i + 1))) + x / 2 ^ i % 2 = x / 2 ^ i % 2 ^ (h - i) := by
  have e1 : (2:Nat) ^ (h - i) = 2 * 2 ^ (h - (i + 1)) := by rw [← Nat.pow_succ']; congr 1; omega
  rw [e1, Nat.mod_mul, Nat.pow_succ, ← Nat.div_div_eq_div_mul]
  omega

set_option maxRecDepth 100000 in
set_option maxHeartbeats 800000 in
theorem xpeek_any (b : Nat) (s : ByteArray) (a size : Nat) (w : World) (hb : Rx w b s a) (hs : s.size ≤ 1000000000) (ha : a ≤ 8 * s.size) (hz : size ≤ 56) :
    Calls Try.prog 62 #[.pointer (some ⟨b, 0, none⟩), .int .i64 size] w fun e w' => e = .returned (.tuple #[.int .u64 (peekN s a size : Int), .int .i64 (peekH s a size : Int)]) ∧ ∃ n, w' = w.drewN n := by
  have HB := Lib.hid hb
  have hz' : (size : Int) ≤ 56 := by omega
  have hz0 : 0 ≤ (size : Int) := by omega
  clear hb
  obtain ⟨h, hh⟩ : ∃ h, peekH s a size = h := ⟨_, rfl⟩
  have HP := Lib.hid (show peekN s a size = num s / 2 ^ a % 2 ^ h by rw [peekN, hh])
  have hh56 : h ≤ 56 := by unfold peekH at hh; omega
  have hhs : a + h ≤ 8 * s.size := by unfold peekH at hh; omega
  have HH := Lib.hid hh
  rw [hh]
  by_cases hlt : 8 * s.size - a < size
  case pos =>
    have hh2 : 8 * s.size - a = h := by unfold peekH at hh; omega
    have hl2 : h < size := by omega
    have HE := Lib.hid hh2
    clear hh hh2 hlt
    go_enter Try.func62, Try.ntmps62
    go_wp2_with fail
    refine (xleft_any b s a _ HB.out hs ha).mono ?_
    rw [HE.out]
    rintro e w1 ⟨rfl, n1, rfl⟩
    go_wp2_with fail
    refine (xleft_any b s a _ (HB.out.drewN n1) hs ha).mono ?_
    rw [HE.out]
    rintro e w1 ⟨rfl, n2, rfl⟩
    go_wp2_with fail
    go_loopw [7, 8] (fun n i wr => ∃ j : Nat, j ≤ h ∧ i = .int .i64 ((j : Int) - 1) ∧ n = .int .u64 ((num s / 2 ^ (a + j) % 2 ^ (h - j) : Nat) : Int) ∧ ∃ m, wr = w.drewN m) (fun _ i _ => (intOf i + 1).toNat)
    case atStart => exact ⟨h, Nat.le_refl _, rfl, by simp [Nat.mod_one], n1 + n2, rfl⟩
    case round =>
      obtain ⟨j, hj, rfl, rfl, m, rfl⟩ := hrel
      by_cases hj0 : 1 ≤ j
      · obtain ⟨i, rfl⟩ : ∃ i, j = i + 1 := ⟨j - 1, by omega⟩
        have hst := high_step (num s / 2 ^ a) h i (by omega)
        rw [Nat.div_div_eq_div_mul, Nat.div_div_eq_div_mul, ← Nat.pow_add, ← Nat.pow_add] at hst
        have hN : num s / 2 ^ (a + (i + 1)) % 2 ^ (h - (i + 1)) < 2 ^ 56 := Nat.lt_of_lt_of_le (Nat.mod_lt _ (Nat.pow_pos (by decide))) (Nat.pow_le_pow_right (by decide) (by omega))
        have HS := Lib.hid hst
        clear hst
        generalize num s / 2 ^ (a + (i + 1)) % 2 ^ (h - (i + 1)) = N at *
        have hN' : (N : Int) ≤ 72057594037927936 := by omega
        have hbt : bitN s (a + i) < 2 := Nat.mod_lt _ (by decide)
        have hbt' : (bitN s (a + i) : Int) ≤ 1 := by omega
        have hi0 : 0 ≤ (i : Int) := by omega
        rw [show (((i + 1 : Nat) : Int) - 1) = (i : Int) by omega]
        go_wp2_with fail
        refine (xbit_any b s a i _ (HB.out.drewN m) hs (by omega)).mono ?_
        rintro e w1 ⟨rfl, n3, rfl⟩
        go_wp2_with fail
        go_roundw
        case rel => exact ⟨i, by omega, rfl, by rw [← HS.out, Int.natCast_add, Int.natCast_mul]; rfl, m + n3, rfl⟩
        case measure => (simp [intOf]; try omega)
      · obtain rfl : j = 0 := by omega
        go_wp2_with fail
        go_ret2
        exact ⟨ret_two (by rw [HP.out]; simp) rfl, m, rfl⟩
  case neg =>
    have hh2 : h = size := by unfold peekH at hh; omega
    clear hh
    subst hh2
    have hl2 : ¬ 8 * s.size - a < h := hlt
    have hl3 : h ≤ 8 * s.size - a := by omega
    clear hlt
    go_enter Try.func62, Try.ntmps62
    go_wp2_with fail
    refine (xleft_any b s a _ HB.out hs ha).mono ?_
    rintro e w1 ⟨rfl, n1, rfl⟩
    go_wp2_with fail
    go_loopw [7, 8] (fun n i wr => ∃ j : Nat, j ≤ h ∧ i = .int .i64 ((j : Int) - 1) ∧ n = .int .u64 ((num s / 2 ^ (a + j) % 2 ^ (h - j) : Nat) : Int) ∧ ∃ m, wr = w.drewN m) (fun _ i _ => (intOf i + 1).toNat)
    case atStart => exact ⟨h, Nat.le_refl _, rfl, by simp [Nat.mod_one], n1, rfl⟩
    case round =>
      obtain ⟨j, hj, rfl, rfl, m, rfl⟩ := hrel
      by_cases hj0 : 1 ≤ j
      · obtain ⟨i, rfl⟩ : ∃ i, j = i + 1 := ⟨j - 1, by omega⟩
        have hst := high_step (num s / 2 ^ a) h i (by omega)
        rw [Nat.div_div_eq_div_mul, Nat.div_div_eq_div_mul, ← Nat.pow_add, ← Nat.pow_add] at hst
        have hN : num s / 2 ^ (a + (i + 1)) % 2 ^ (h - (i + 1)) < 2 ^ 56 := Nat.lt_of_lt_of_le (Nat.mod_lt _ (Nat.pow_pos (by decide))) (Nat.pow_le_pow_right (by decide) (by omega))
        have HS := Lib.hid hst
        clear hst
        generalize num s / 2 ^ (a + (i + 1)) % 2 ^ (h - (i + 1)) = N at *
        have hN' : (N : Int) ≤ 72057594037927936 := by omega
        have hbt : bitN s (a + i) < 2 := Nat.mod_lt _ (by decide)
        have hbt' : (bitN s (a + i) : Int) ≤ 1 := by omega
        have hi0 : 0 ≤ (i : Int) := by omega
        rw [show (((i + 1 : Nat) : Int) - 1) = (i : Int) by omega]
        go_wp2_with fail
        refine (xbit_any b s a i _ (HB.out.drewN m) hs (by omega)).mono ?_
        rintro e w1 ⟨rfl, n3, rfl⟩
        go_wp2_with fail
        go_roundw
        case rel => exact ⟨i, by omega, rfl, by rw [← HS.out, Int.natCast_add, Int.natCast_mul]; rfl, m + n3, rfl⟩
        case measure => (simp [intOf]; try omega)
      · obtain rfl : j = 0 := by omega
        go_wp2_with fail
        go_ret2
        exact ⟨ret_two (by rw [HP.out]; simp) rfl, m, rfl⟩

theorem xpeek_bad (b : Nat) (size : Int) (w : World) (hz : size < 0 ∨ 56 < size) :
    Calls Try.prog 62 #[.pointer (some ⟨b, 0, none⟩), .int .i64 size] w fun e w' => e = .returned (.tuple #[.int .u64 0, .int .i64 0]) ∧ w' = w := by
  rcases hz with h | h
  all_goals
    go_enter Try.func62, Try.ntmps62
    go_wp2
    go_ret2
    exact ⟨rfl, rfl⟩

set_option maxHeartbeats 800000 in
theorem xskip_any (b : Nat) (s : ByteArray) (a : Nat) (size : Int) (w : World) (hb : Rx w b s a) (hs : s.size ≤ 1000000000) (ha : a ≤ 8 * s.size) :
    Calls Try.prog 63 #[.pointer (some ⟨b, 0, none⟩), .int .i64 size] w fun e w' => e = .returned (.int .i64 (skipE s a size)) ∧ Rx w' b s (if skipE s a size = 0 then a + size.toNat else a) ∧ Fr [b] w w' := by
  have c1 := hb.c1
  have f1 := hb.f1
  have HB := Lib.hid hb
  clear hb
  by_cases h0 : size < 0
  · have e : skipE s a size = 2 := by simp [skipE, h0]
    rw [e]; clear e
    go_enter Try.func63, Try.ntmps63
    go_wp2
    go_ret
    exact ⟨rfl, HB.out, Fr.refl _ _⟩
  · by_cases h1 : ((8 * s.size - a : Nat) : Int) < size
    · have e : skipE s a size = 6 := by simp only [skipE, if_neg h0, if_pos h1]
      rw [e]; clear e
      have hd := Lib.hid (decide_eq_true h1)
      clear h1
      go_enter Try.func63, Try.ntmps63
      go_wp2_with fail
      refine (xleft_any b s a _ HB.out hs ha).mono ?_
      rintro e w' ⟨rfl, n, rfl⟩
      have hd1 := hd.out
      go_wp2
      go_ret
      exact ⟨rfl, HB.out.drewN n, Fr.drewN _ _ _⟩
    · have e : skipE s a size = 0 := by simp only [skipE, if_neg h0, if_neg h1]
      have e1 : RowKit.wrap64 ((a : Int) + size) = ((a + size.toNat : Nat) : Int) := by unfold RowKit.wrap64; omega
      rw [e]; clear e
      have HE := Lib.hid e1
      clear e1
      have hd := Lib.hid (decide_eq_false h1)
      clear h1
      go_enter Try.func63, Try.ntmps63
      go_wp2_with fail
      refine (xleft_any b s a _ HB.out hs ha).mono ?_
      rintro e w' ⟨rfl, n, rfl⟩
      have hd1 := hd.out
      go_wp2
      have H1 := HE.out
      go_ret
      refine ⟨rfl, ?_, ?_⟩
      · rw [HE.out]; exact (HB.out.drewN n).set _
      · exact (Fr.drewN _ _ _).trans (Fr.setCell _ _ _ _)

set_option maxHeartbeats 800000 in
theorem xbits_any (b : Nat) (s : ByteArray) (a : Nat) (size : Int) (w : World) (hb : Rx w b s a) (hs : s.size ≤ 1000000000) (ha : a ≤ 8 * s.size) :
    Calls Try.prog 66 #[.pointer (some ⟨b, 0, none⟩), .int .i64 size] w fun e w' => e = .returned (.tuple #[.int .u64 (bitsN s a size : Int), .int .i64 (bitsE s a size)]) ∧ Rx w' b s (if bitsE s a size = 0 then a + size.toNat else a) ∧ Fr [b] w w' := by
  have c1 := hb.c1
  have f1 := hb.f1
  have HB := Lib.hid hb
  clear hb
  by_cases h0 : size < 0 ∨ 56 < size
  · have e : bitsE s a size = 2 := by unfold bitsE; rw [if_pos h0]
    have e1 : bitsN s a size = 0 := by simp [bitsN, e]
    rw [e, e1]; clear e e1
    rcases h0 with h | h
    all_goals
      go_enter Try.func66, Try.ntmps66
      go_wp2
      go_ret2
      exact ⟨rfl, HB.out, Fr.refl _ _⟩
  obtain ⟨n, rfl⟩ := Int.eq_ofNat_of_zero_le (show 0 ≤ size by omega)
  have hn : n ≤ 56 := by omega
  have hn0 : 0 ≤ (n : Int) := by omega
  have hn1 : (n : Int) ≤ 56 := by omega
  clear h0
  by_cases h2 : ((8 * s.size - a : Nat) : Int) < (n : Int)
  · have e : bitsE s a n = 6 := by unfold bitsE; rw [if_neg (by omega), if_pos h2]
    have e1 : bitsN s a n = 0 := by simp [bitsN, e]
    have h3 : peekH s a n < n := by unfold peekH; omega
    rw [e, e1]; clear e e1 h2
    go_enter Try.func66, Try.ntmps66
    go_wp2_with fail
    refine (xpeek_any b s a n _ HB.out hs ha hn).mono ?_
    rintro e w1 ⟨rfl, m, rfl⟩
    go_wp2_with fail
    go_ret2
    exact ⟨rfl, HB.out.drewN m, Fr.drewN _ _ _⟩
  · have e : bitsE s a n = 0 := by unfold bitsE; rw [if_neg (by omega), if_neg h2]
    have e1 : bitsN s a n = peekN s a n := by simp [bitsN, e]
    have h3 : ¬ peekH s a n < n := by unfold peekH; omega
    have h4 : (a : Int) ≤ 8000000000 := by omega
    rw [e, e1]; clear e e1 h2
    go_enter Try.func66, Try.ntmps66
    go_wp2_with fail
    refine (xpeek_any b s a n _ HB.out hs ha hn).mono ?_
    rintro e w1 ⟨rfl, m, rfl⟩
    go_wp2_with fail
    go_ret2
    exact ⟨rfl, (HB.out.drewN m).set (a + n), (Fr.drewN _ _ _).trans (Fr.setCell _ _ _ _)⟩

set_option maxHeartbeats 800000 in
theorem xalign_any (b : Nat) (s : ByteArray) (a : Nat) (w : World) (hb : Rx w b s a) (hs : s.size ≤ 1000000000) (ha : a ≤ 8 * s.size) :
    Calls Try.prog 64 #[.pointer (some ⟨b, 0, none⟩)] w fun e w' => e = .returned (.tuple #[]) ∧ Rx w' b s (alignA a) ∧ Fr [b] w w' := by
  have g0 : (a : Int) ≤ 8 * (s.size : Int) := by omega
  have g1 : (s.size : Int) ≤ 1000000000 := by omega
  have HB := Lib.hid hb
  clear hb
  go_enter Try.func64, Try.ntmps64
  go_wp2_with fail
  go_loopg [] (alignA a - a) (fun g wr => ∃ c, g = alignA a - c ∧ a ≤ c ∧ c ≤ alignA a ∧ Rx wr b s c ∧ Fr [b] w wr)
  case atStart => exact ⟨a, rfl, Nat.le_refl _, by unfold alignA; omega, HB.out, Fr.refl _ _⟩
  case round =>
    obtain ⟨c, rfl, hc1, hc2, hR, hF⟩ := hrel
    have c1 := hR.c1
    have f1 := hR.f1
    have HR := Lib.hid hR
    clear hR
    have g2 : (c : Int) ≤ 8000000000 := by unfold alignA at hc2; omega
    obtain ⟨m, hm⟩ : ∃ m : Nat, c % 8 = m := ⟨_, rfl⟩
    have hm' : (c : Int) % 8 = (m : Int) := by omega
    by_cases h8 : m = 0
    · have hca : c = alignA a := by unfold alignA at *; omega
      clear hm
      subst h8
      go_wp2_with fail
      go_end0
      exact ⟨rfl, hca ▸ HR.out, hF⟩
    · have hcl : c + 1 ≤ alignA a := by unfold alignA at *; omega
      have hne : ((m : Int) != 0) = true := by rw [bne_iff_ne]; omega
      have HM := Lib.hid hm
      clear hm
      go_wp2_with fail
      go_roundg (alignA a - (c + 1))
      case measure => omega
      case rel => exact ⟨c + 1, rfl, by omega, hcl, HR.out.set (c + 1), hF.trans (Fr.setCell _ _ _ _)⟩

set_option maxHeartbeats 800000 in
theorem xbytes_any (b : Nat) (s : ByteArray) (a : Nat) (n : Int) (w : World) (hb : Rx w b s a) (hs : s.size ≤ 1000000000) (ha : a ≤ 8 * s.size) :
    Calls Try.prog 65 #[.pointer (some ⟨b, 0, none⟩), .int .i64 n] w fun e w' => e = .returned (.tuple #[.string (bytesS s a n), .int .i64 (bytesE s a n)]) ∧ Rx w' b s (if bytesE s a n = 0 then alignA a + 8 * n.toNat else a) ∧ Fr [b] w w' := by
  have c0 := hb.c0
  have c1 := hb.c1
  have f1 := hb.f1
  have HB := Lib.hid hb
  clear hb
  by_cases h0 : n < 0
  · have e : bytesE s a n = 2 := by simp [bytesE, h0]
    have e1 : bytesS s a n = ByteArray.empty := by simp [bytesS, e]
    rw [e, e1]; clear e e1
    go_enter Try.func65, Try.ntmps65
    go_wp2
    go_ret2
    exact ⟨rfl, HB.out, Fr.refl _ _⟩
  obtain ⟨m, rfl⟩ := Int.eq_ofNat_of_zero_le (show 0 ≤ n by omega)
  have hm0 : 0 ≤ (m : Int) := by omega
  have g0 : (a : Int) ≤ 8 * (s.size : Int) := by omega
  have g1 : (s.size : Int) ≤ 1000000000 := by omega
  obtain ⟨q, hq⟩ : ∃ q : Nat, (a + 7) / 8 = q := ⟨_, rfl⟩
  have g2 : ((a : Int) + 7) / 8 = (q : Int) := by omega
  have g3 : (q : Int) ≤ (s.size : Int) := by omega
  clear h0
  by_cases h2 : (((8 * s.size - a) / 8 : Nat) : Int) < (m : Int)
  · have e : bytesE s a m = 6 := by unfold bytesE; rw [if_neg (by omega), if_pos h2]
    have e1 : bytesS s a m = ByteArray.empty := by simp [bytesS, e]
    have h3 : (s.size : Int) - (q : Int) < (m : Int) := by omega
    rw [e, e1]; clear e e1 h2 hq
    go_enter Try.func65, Try.ntmps65
    go_wp2_with fail
    go_ret2
    exact ⟨rfl, HB.out, Fr.refl _ _⟩
  · have e : bytesE s a m = 0 := by unfold bytesE; rw [if_neg (by omega), if_neg h2]
    have e1 : bytesS s a m = s.extract q (q + m) := by
      have : alignA a / 8 = q := by unfold alignA; omega
      simp [bytesS, e, this]
    have e2 : alignA a = 8 * q := by unfold alignA; omega
    have h3 : (m : Int) ≤ (s.size : Int) - (q : Int) := by omega
    rw [e, e1, e2]; clear e e1 e2 h2 hq
    go_enter Try.func65, Try.ntmps65
    go_wp2_with fail
    go_ret2
    exact ⟨rfl, by have := HB.out.set (8 * q + 8 * m); rw [show (8 * ((q : Int) + (m : Int))) = ((8 * q + 8 * m : Nat) : Int) by omega]; exact this, Fr.setCell _ _ _ _⟩

/-! ### a peek of whatever size -/
def peekNI (s : ByteArray) (a : Nat) (n : Int) : Nat := if n < 0 ∨ 56 < n then 0 else peekN s a n.toNat
def peekHI (s : ByteArray) (a : Nat) (n : Int) : Nat := if n < 0 ∨ 56 < n then 0 else peekH s a n.toNat
theorem peek_all (b : Nat) (s : ByteArray) (a : Nat) (n : Int) (w : World) (hb : Rd w b s a) (hs : s.size ≤ 1000000000) (ha : a ≤ 8 * s.size) :
    Calls Try.prog 40 #[.pointer (some ⟨b, 0, none⟩), .int .i64 n] w fun e w' => e = .returned (.tuple #[.int .u64 (peekNI s a n : Int), .int .i64 (peekHI s a n : Int)]) ∧ Fr [] w w' := by
  by_cases h : n < 0 ∨ 56 < n
  · refine (peek_bad b n w h).mono ?_
    rintro e w' ⟨rfl, rfl⟩
    exact ⟨by simp only [peekNI, peekHI, if_pos h]; rfl, Fr.refl _ _⟩
  · obtain ⟨m, rfl⟩ := Int.eq_ofNat_of_zero_le (show 0 ≤ n by omega)
    refine (peek_any b s a m w hb hs ha (by omega)).mono ?_
    rintro e w' ⟨rfl, hf⟩
    exact ⟨by simp only [peekNI, peekHI, if_neg h]; rfl, hf⟩
theorem xpeek_all (b : Nat) (s : ByteArray) (a : Nat) (n : Int) (w : World) (hb : Rx w b s a) (hs : s.size ≤ 1000000000) (ha : a ≤ 8 * s.size) :
    Calls Try.prog 62 #[.pointer (some ⟨b, 0, none⟩), .int .i64 n] w fun e w' => e = .returned (.tuple #[.int .u64 (peekNI s a n : Int), .int .i64 (peekHI s a n : Int)]) ∧ Fr [] w w' := by
  by_cases h : n < 0 ∨ 56 < n
  · refine (xpeek_bad b n w h).mono ?_
    rintro e w' ⟨rfl, rfl⟩
    exact ⟨by simp only [peekNI, peekHI, if_pos h]; rfl, Fr.refl _ _⟩
  · obtain ⟨m, rfl⟩ := Int.eq_ofNat_of_zero_le (show 0 ≤ n by omega)
    refine (xpeek_any b s a m w hb hs ha (by omega)).mono ?_
    rintro e w' ⟨rfl, k, rfl⟩
    exact ⟨by simp only [peekNI, peekHI, if_neg h]; rfl, Fr.drewN _ _ _⟩
end Go.Proofs.Ytlognooioemenaa