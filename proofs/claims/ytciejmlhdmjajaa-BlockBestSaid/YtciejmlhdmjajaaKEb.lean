/- Package symbol: how many bits tell a length, a distance; the least of a symbol. Package symbol: which symbol a length has, a distance. -/
import Derived.Test.YtciejmlhdmjajaaKRg
import Derived.IntWalk
namespace Go.Proofs.Ytciejmlhdmjajaa
open Go.RowKit
set_option linter.unusedVariables false
set_option linter.unusedSimpArgs false

/-- How many bits more a length's symbol has; a distance's. -/
def lbN (s : Nat) : Nat := if s < 265 ∨ s = 285 then 0 else (s - 265) / 4 + 1
def dbN (s : Nat) : Nat := if s < 4 then 0 else s / 2 - 1
set_option maxRecDepth 100000 in
set_option maxHeartbeats 1600000 in
theorem lengthBits_ok (s : Nat) (w : World) (h0 : 257 ≤ s) (h1 : s ≤ 285) : Calls Try.prog 68 #[.int .i64 (s : Int)] w fun e w' => e = .returned (.tuple #[.int .i64 (lbN s : Nat), .bool true]) ∧ w' = w := by
  have h0i : 257 ≤ (s : Int) := by omega
  have h1i : (s : Int) ≤ 285 := by omega
  by_cases ha : s < 265
  · have HE := Lib.hid (show lbN s = 0 by unfold lbN; rw [if_pos (.inl ha)])
    have hai : (s : Int) < 265 := by omega
    clear ha h0 h1
    go_enter Try.func68, Try.ntmps68
    go_wp2_with fail
    go_ret2
    rw [HE.out]
    exact ⟨rfl, rfl⟩
  · by_cases hb : s = 285
    · subst hb
      go_enter Try.func68, Try.ntmps68
      go_wp2_with fail
      go_ret2
      exact ⟨rfl, rfl⟩
    · have hai : 265 ≤ (s : Int) := by omega
      have hbi : ((s : Int) == 285) = false := by rw [beq_eq_false_iff_ne]; omega
      obtain ⟨d, hd⟩ : ∃ d, s - 265 = d := ⟨_, rfl⟩
      have ed : (s : Int) - 265 = (d : Int) := by omega
      have hdb : (d : Int) ≤ 20 := by omega
      obtain ⟨b, hb2⟩ : ∃ b, lbN s = b := ⟨_, rfl⟩
      have eb : (d : Int) / 4 + 1 = (b : Int) := by rw [← hb2]; unfold lbN; rw [if_neg (by omega), ← hd]; omega
      rw [hb2]
      have EB := Lib.hid eb
      clear ha h0 h1 eb hb2
      go_enter Try.func68, Try.ntmps68
      go_wp2_with fail
      go_ret2
      rw [← EB.out]
      exact ⟨rfl, rfl⟩
set_option maxRecDepth 100000 in
set_option maxHeartbeats 1600000 in
theorem distBits_ok (s : Nat) (w : World) (h1 : s ≤ 29) : Calls Try.prog 71 #[.int .i64 (s : Int)] w fun e w' => e = .returned (.tuple #[.int .i64 (dbN s : Nat), .bool true]) ∧ w' = w := by
  have h0i : 0 ≤ (s : Int) := by omega
  have h1i : (s : Int) ≤ 29 := by omega
  by_cases ha : s < 4
  · have HE := Lib.hid (show dbN s = 0 by unfold dbN; rw [if_pos ha])
    have hai : (s : Int) < 4 := by omega
    clear ha h1
    go_enter Try.func71, Try.ntmps71
    go_wp2_with fail
    go_ret2
    rw [HE.out]
    exact ⟨rfl, rfl⟩
  · have hai : 4 ≤ (s : Int) := by omega
    obtain ⟨b, hb2⟩ : ∃ b, dbN s = b := ⟨_, rfl⟩
    have eb : (s : Int) / 2 - 1 = (b : Int) := by rw [← hb2]; unfold dbN; rw [if_neg ha]; omega
    rw [hb2]
    have EB := Lib.hid eb
    clear h1 eb hb2 ha
    go_enter Try.func71, Try.ntmps71
    go_wp2_with fail
    go_ret2
    rw [← EB.out]
    exact ⟨rfl, rfl⟩
theorem and3 : ∀ d : Nat, d < 64 → bits BinOp.and IntKind.i64 (d : Int) 3 = ((d % 4 : Nat) : Int) := by decide +kernel
theorem and1 : ∀ d : Nat, d < 64 → bits BinOp.and IntKind.i64 (d : Int) 1 = ((d % 2 : Nat) : Int) := by decide +kernel
/-- What is shifted up, in so many bits. -/
theorem up64 (x b c : Nat) (hx : x ≤ 7) (hb : b ≤ 13) (hc : c ≤ 3) (y : Int) (hy : y = (x : Int)) : wrap64 (wrap64 (y * 2 ^ b) + (c : Int)) = ((x * 2 ^ b + c : Nat) : Int) := by
  subst hy
  have h1 : 2 ^ b ≤ 2 ^ 13 := Nat.pow_le_pow_right (by decide) hb
  have h2 : x * 2 ^ b ≤ 7 * 2 ^ 13 := Nat.mul_le_mul hx h1
  have e : (x : Int) * 2 ^ b = ((x * 2 ^ b : Nat) : Int) := by rw [Int.natCast_mul, Int.natCast_pow]; rfl
  rw [e]
  obtain ⟨z, hz⟩ : ∃ z, x * 2 ^ b = z := ⟨_, rfl⟩
  rw [hz] at h2 ⊢
  rw [IntWalk.wrap64_in (z : Int) ⟨by omega, by omega⟩, IntWalk.wrap64_in _ ⟨by omega, by omega⟩]
  omega
/-- The least length of a symbol; the least distance. -/
def leastN (s : Nat) : Nat := if s = 285 then 258 else if s < 265 then s - 254 else (4 + (s - 265) % 4) * 2 ^ lbN s + 3
def nearN (s : Nat) : Nat := if s < 4 then s + 1 else (2 + s % 2) * 2 ^ dbN s + 1
set_option maxRecDepth 100000 in
set_option maxHeartbeats 1600000 in
theorem least_any (s : Nat) (w : World) (h0 : 257 ≤ s) (h1 : s ≤ 285) : Calls Try.prog 67 #[.int .i64 (s : Int)] w fun e w' => e = .returned (.int .i64 (leastN s : Nat)) ∧ w' = w := by
  have h0i : 257 ≤ (s : Int) := by omega
  have h1i : (s : Int) ≤ 285 := by omega
  have HB := Lib.hid (lengthBits_ok s w h0 h1)
  by_cases hb : s = 285
  · subst hb
    have HB2 := Lib.hid (show Calls Try.prog 68 #[.int .i64 285] w fun e w' => e = .returned (.tuple #[.int .i64 0, .bool true]) ∧ w' = w from HB.out)
    clear HB h0 h1
    go_enter Try.func67, Try.ntmps67
    go_wp2_with fail
    refine HB2.out.mono ?_
    rintro e w1 ⟨rfl, hw⟩
    replace hw := hw.symm
    subst hw
    go_wp2_with fail
    go_ret
    exact ⟨rfl, rfl⟩
  · have hbi : ((s : Int) == 285) = false := by rw [beq_eq_false_iff_ne]; omega
    by_cases ha : s < 265
    · have hE : leastN s = s - 254 := by unfold leastN; rw [if_neg hb, if_pos ha]
      have hB0 : lbN s = 0 := by unfold lbN; rw [if_pos (.inl ha)]
      rw [hB0] at HB
      have HB2 := Lib.hid (show Calls Try.prog 68 #[.int .i64 (s : Int)] w fun e w' => e = .returned (.tuple #[.int .i64 0, .bool true]) ∧ w' = w from HB.out)
      have HE := Lib.hid (show (s : Int) - 254 = ((leastN s : Nat) : Int) by rw [hE]; omega)
      clear hE hB0 HB h0 h1 ha hb
      go_enter Try.func67, Try.ntmps67
      go_wp2_with fail
      refine HB2.out.mono ?_
      rintro e w1 ⟨rfl, hw⟩
      replace hw := hw.symm
      subst hw
      go_wp2_with fail
      go_ret
      rw [← HE.out]
      exact ⟨rfl, rfl⟩
    · obtain ⟨b, hb2⟩ : ∃ b, lbN s = b := ⟨_, rfl⟩
      have hb5 : 1 ≤ b ∧ b ≤ 5 := by rw [← hb2]; unfold lbN; rw [if_neg (by omega)]; omega
      rw [hb2] at HB
      obtain ⟨d, hd⟩ : ∃ d, s - 265 = d := ⟨_, rfl⟩
      have ed : (s : Int) - 265 = (d : Int) := by omega
      have hdb : (d : Int) ≤ 19 := by omega
      have hE : leastN s = (4 + d % 4) * 2 ^ b + 3 := by unfold leastN; rw [if_neg hb, if_neg ha, hb2, hd]
      have hb0 : ((b : Int) == 0) = false := by rw [beq_eq_false_iff_ne]; omega
      have hb6 : (b : Int) ≤ 5 := by omega
      have HE := Lib.hid hE
      clear hE h0 h1 ha hb hb2 hb5 hd
      go_enter Try.func67, Try.ntmps67
      go_wp2_with fail
      refine HB.out.mono ?_
      rintro e w1 ⟨rfl, hw⟩
      replace hw := hw.symm
      subst hw
      go_wp2_with fail
      go_ret
      have h3 := up64 (4 + d % 4) b 3 (by omega) (by omega) (by omega) (wrap64 (4 + bits BinOp.and IntKind.i64 (d : Int) 3)) (by rw [and3 d (by omega), IntWalk.wrap64_in _ ⟨by omega, by omega⟩]; omega)
      rw [HE.out, ← h3]
      exact ⟨rfl, rfl⟩
set_option maxRecDepth 100000 in
set_option maxHeartbeats 1600000 in
theorem near_any (s : Nat) (w : World) (h1 : s ≤ 29) : Calls Try.prog 70 #[.int .i64 (s : Int)] w fun e w' => e = .returned (.int .i64 (nearN s : Nat)) ∧ w' = w := by
  have h0i : 0 ≤ (s : Int) := by omega
  have h1i : (s : Int) ≤ 29 := by omega
  have HB := Lib.hid (distBits_ok s w h1)
  by_cases ha : s < 6 ∧ (s < 4)
  · have hE : nearN s = s + 1 := by unfold nearN; rw [if_pos ha.2]
    have hB0 : dbN s = 0 := by unfold dbN; rw [if_pos ha.2]
    rw [hB0] at HB
    have HB2 := Lib.hid (show Calls Try.prog 71 #[.int .i64 (s : Int)] w fun e w' => e = .returned (.tuple #[.int .i64 0, .bool true]) ∧ w' = w from HB.out)
    have HE := Lib.hid (show (s : Int) + 1 = ((nearN s : Nat) : Int) by rw [hE]; omega)
    clear hE hB0 HB h1 ha
    go_enter Try.func70, Try.ntmps70
    go_wp2_with fail
    refine HB2.out.mono ?_
    rintro e w1 ⟨rfl, hw⟩
    replace hw := hw.symm
    subst hw
    go_wp2_with fail
    go_ret
    rw [← HE.out]
    exact ⟨rfl, rfl⟩
  · have ha4 : 4 ≤ s := by omega
    obtain ⟨b, hb2⟩ : ∃ b, dbN s = b := ⟨_, rfl⟩
    have hb5 : 1 ≤ b ∧ b ≤ 13 := by rw [← hb2]; unfold dbN; rw [if_neg (by omega)]; omega
    rw [hb2] at HB
    have hE : nearN s = (2 + s % 2) * 2 ^ b + 1 := by unfold nearN; rw [if_neg (by omega), hb2]
    have hb0 : ((b : Int) == 0) = false := by rw [beq_eq_false_iff_ne]; omega
    have hb6 : (b : Int) ≤ 13 := by omega
    have HE := Lib.hid hE
    clear hE h1 ha ha4 hb2 hb5
    go_enter Try.func70, Try.ntmps70
    go_wp2_with fail
    refine HB.out.mono ?_
    rintro e w1 ⟨rfl, hw⟩
    replace hw := hw.symm
    subst hw
    go_wp2_with fail
    go_ret
    have h3 := up64 (2 + s % 2) b 1 (by omega) (by omega) (by omega) (wrap64 (2 + bits BinOp.and IntKind.i64 (s : Int) 1)) (by rw [and1 s (by omega), IntWalk.wrap64_in _ ⟨by omega, by omega⟩]; omega)
    rw [HE.out, ← h3]
    exact ⟨rfl, rfl⟩
end Go.Proofs.Ytciejmlhdmjajaa
namespace Go.Proofs.Ytciejmlhdmjajaa
open Go.RowKit
set_option linter.unusedVariables false
set_option linter.unusedSimpArgs false

theorem least_up : ∀ i : Nat, i < 29 → ∀ j : Nat, j < 29 → i ≤ j → leastN (257 + i) ≤ leastN (257 + j) := by decide +kernel
theorem near_up : ∀ i : Nat, i < 30 → ∀ j : Nat, j < 30 → i ≤ j → nearN i ≤ nearN j := by decide +kernel
theorem least_le : ∀ i : Nat, i < 29 → 3 ≤ leastN (257 + i) ∧ leastN (257 + i) ≤ 258 := by decide +kernel
theorem near_le : ∀ i : Nat, i < 30 → 1 ≤ nearN i ∧ nearN i ≤ 24577 := by decide +kernel
/-- How many of the first N do not come up to n. -/
def Upto (f : Nat → Nat) (N n r : Nat) : Prop := r ≤ N ∧ (∀ i, i < r → f i ≤ n) ∧ ∀ i, r ≤ i → i < N → n < f i
def lengthF (i : Nat) : Nat := leastN (257 + i)
def distF (i : Nat) : Nat := nearN i
set_option maxRecDepth 100000 in
set_option maxHeartbeats 1600000 in
theorem length_so (b i n : Nat) (w : World) (hi : i < 29) (hn : n ≤ 32768) (hb : w.heap[b]? = some (.cells #[.int .i64 (n : Int)] 3 (0, 0))) :
    Calls Try.prog 66 #[.int .i64 (i : Int), .pointer (some ⟨b, 0, none⟩)] w fun e w' => e = .returned (.bool (decide (n < lengthF i))) ∧ Fr [] w w' := by
  have c0 := cell_of hb 0
  have hlt := lt_of hb
  simp at c0
  have hii : (i : Int) < 29 := by omega
  have hni : (n : Int) ≤ 32768 := by omega
  obtain ⟨s, hs⟩ : ∃ s, 257 + i = s := ⟨_, rfl⟩
  have es : (257 : Int) + (i : Int) = (s : Int) := by omega
  obtain ⟨v, hv⟩ : ∃ v, lengthF i = v := ⟨_, rfl⟩
  have hvb : v ≤ 32768 := by have := least_le i hi; unfold lengthF at hv; omega
  have hvi : (v : Int) ≤ 32768 := by omega
  have HL := Lib.hid (fun W => least_any s W (by omega) (by omega))
  have hv2 : leastN s = v := by rw [← hs]; exact hv
  rw [hv2] at HL
  rw [hv]
  clear hi hn hb hs hv hvb hv2
  go_enter Try.func66, Try.ntmps66
  go_wp2_with fail
  refine wp_region_quiet_tail 5 (by kernel_rfl) (by kernel_rfl) ?_
  simp only [List.take_succ_cons, List.take_zero, List.drop_succ_cons, List.drop_zero]
  repeat go_big_quiet_step (fail)
  (go_big_quiet_want; go_big_quiet_op; refine ⟨_, HL.out _, ?_⟩; go_big_quiet_on)
  repeat go_big_quiet_step (fail)
  refine wpQuiet_nil ?_
  go_wp2_with fail
  go_ret
  exact ⟨by simp, Fr.drew (Fr.refl _ _)⟩
set_option maxRecDepth 100000 in
set_option maxHeartbeats 3200000 in
theorem length_search (b n : Nat) (w : World) (hn : n ≤ 32768) (hb : w.heap[b]? = some (.cells #[.int .i64 (n : Int)] 3 (0, 0))) :
    Calls Try.prog 65 #[.int .i64 29, .func (.func 66) #[] #[.pointer (some ⟨b, 0, none⟩)]] w fun e w' => ∃ r, e = .returned (.int .i64 ((r : Nat) : Int)) ∧ Upto lengthF 29 n r ∧ Fr [] w w' := by
  have HB := Lib.hid (And.intro hn hb)
  clear hn hb
  go_enter Try.func65, Try.ntmps65
  go_wp2_with fail
  go_loopw [0, 5, 6] (fun v0 v5 _ wr => ∃ lo hi : Nat, v5 = .int .i64 (lo : Int) ∧ v0 = .int .i64 (hi : Int) ∧ lo ≤ hi ∧ hi ≤ 29 ∧ Hid ((∀ i, i < lo → lengthF i ≤ n) ∧ ∀ i, hi ≤ i → i < 29 → n < lengthF i) ∧ Fr [] w wr) (fun v0 v5 _ _ => (intOf v0).toNat - (intOf v5).toNat)
  case atStart => exact ⟨0, 29, rfl, rfl, by omega, by omega, Lib.hid ⟨fun i h => by omega, fun i h1 h2 => by omega⟩, Fr.refl _ _⟩
  case round =>
    obtain ⟨lo, hi, rfl, rfl, hlh, hhi, hp, hf⟩ := hrel
    have hlb : (lo : Int) ≤ 29 := by omega
    have hhb : (hi : Int) ≤ 29 := by omega
    by_cases hlt : lo < hi
    · have hlti : (lo : Int) < (hi : Int) := by omega
      obtain ⟨m, hm⟩ : ∃ m, (lo + hi) / 2 = m := ⟨_, rfl⟩
      have em : ((lo : Int) + (hi : Int)) / 2 = (m : Int) := by omega
      have hmb : (m : Int) ≤ 29 := by omega
      have HS := Lib.hid (length_so b m n wr (by omega) HB.out.1 (hf.blk HB.out.2 (by simp)))
      have HP := Lib.hid (And.intro hp.out (And.intro hf hm))
      obtain ⟨v, hv⟩ : ∃ v, lengthF m = v := ⟨_, rfl⟩
      rw [hv] at HS
      have HV := Lib.hid hv
      clear hp hf hm hv
      by_cases hnv : n < v
      · have hd : decide (n < v) = true := by simp; exact hnv
        rw [hd] at HS
        clear hd
        go_wp2_with fail
        refine HS.out.mono ?_
        rintro e w1 ⟨rfl, f1⟩
        have F1 := Lib.hid (HP.out.2.1.trans f1)
        clear f1
        go_wp2_with fail
        obtain ⟨⟨h1, h2⟩, h3, h4⟩ := HP.out
        exact ⟨⟨lo, m, rfl, rfl, by omega, by omega, Lib.hid ⟨h1, fun i hi1 hi2 => by
          have h5 : lengthF _ ≤ lengthF _ := least_up m (by omega) i hi2 (by omega)
          have h6 := HV.out
          omega⟩, F1.out⟩, by simp [intOf]; omega⟩
      · have hd : decide (n < v) = false := by simp; omega
        rw [hd] at HS
        clear hd
        go_wp2_with fail
        refine HS.out.mono ?_
        rintro e w1 ⟨rfl, f1⟩
        have F1 := Lib.hid (HP.out.2.1.trans f1)
        clear f1
        go_wp2_with fail
        obtain ⟨⟨h1, h2⟩, h3, h4⟩ := HP.out
        exact ⟨⟨m + 1, hi, by go_num, rfl, by omega, by omega, Lib.hid ⟨fun i hi1 => by
          have h5 : lengthF _ ≤ lengthF _ := least_up i (by omega) m (by omega) (by omega)
          have h6 := HV.out
          omega, h2⟩, F1.out⟩, by simp [intOf]; omega⟩
    · have hd : decide (lo < hi) = false := by simp; omega
      have hle : lo = hi := by omega
      have HP := Lib.hid (And.intro hp.out (And.intro hf hle))
      clear hp hf hle
      go_wp2_with fail
      go_ret
      obtain ⟨⟨h1, h2⟩, h3, h4⟩ := HP.out
      exact ⟨lo, rfl, ⟨by omega, h1, by rw [h4]; exact h2⟩, h3⟩
set_option maxRecDepth 100000 in
set_option maxHeartbeats 1600000 in
theorem dist_so (b i n : Nat) (w : World) (hi : i < 30) (hn : n ≤ 32768) (hb : w.heap[b]? = some (.cells #[.int .i64 (n : Int)] 3 (0, 0))) :
    Calls Try.prog 69 #[.int .i64 (i : Int), .pointer (some ⟨b, 0, none⟩)] w fun e w' => e = .returned (.bool (decide (n < distF i))) ∧ Fr [] w w' := by
  have c0 := cell_of hb 0
  have hlt := lt_of hb
  simp at c0
  have hii : (i : Int) < 30 := by omega
  have hni : (n : Int) ≤ 32768 := by omega
  obtain ⟨v, hv⟩ : ∃ v, distF i = v := ⟨_, rfl⟩
  have hvb : v ≤ 32768 := by have := near_le i hi; unfold distF at hv; omega
  have hvi : (v : Int) ≤ 32768 := by omega
  have HL := Lib.hid (fun W => near_any i W (by omega))
  have hv2 : nearN i = v := hv
  rw [hv2] at HL
  rw [hv]
  clear hi hn hb hv hvb hv2
  go_enter Try.func69, Try.ntmps69
  go_wp2_with fail
  refine wp_region_quiet_tail 4 (by kernel_rfl) (by kernel_rfl) ?_
  simp only [List.take_succ_cons, List.take_zero, List.drop_succ_cons, List.drop_zero]
  repeat go_big_quiet_step (fail)
  (go_big_quiet_want; go_big_quiet_op; refine ⟨_, HL.out _, ?_⟩; go_big_quiet_on)
  repeat go_big_quiet_step (fail)
  refine wpQuiet_nil ?_
  go_wp2_with fail
  go_ret
  exact ⟨by simp, Fr.drew (Fr.refl _ _)⟩
set_option maxRecDepth 100000 in
set_option maxHeartbeats 3200000 in
theorem dist_search (b n : Nat) (w : World) (hn : n ≤ 32768) (hb : w.heap[b]? = some (.cells #[.int .i64 (n : Int)] 3 (0, 0))) :
    Calls Try.prog 65 #[.int .i64 30, .func (.func 69) #[] #[.pointer (some ⟨b, 0, none⟩)]] w fun e w' => ∃ r, e = .returned (.int .i64 ((r : Nat) : Int)) ∧ Upto distF 30 n r ∧ Fr [] w w' := by
  have HB := Lib.hid (And.intro hn hb)
  clear hn hb
  go_enter Try.func65, Try.ntmps65
  go_wp2_with fail
  go_loopw [0, 5, 6] (fun v0 v5 _ wr => ∃ lo hi : Nat, v5 = .int .i64 (lo : Int) ∧ v0 = .int .i64 (hi : Int) ∧ lo ≤ hi ∧ hi ≤ 30 ∧ Hid ((∀ i, i < lo → distF i ≤ n) ∧ ∀ i, hi ≤ i → i < 30 → n < distF i) ∧ Fr [] w wr) (fun v0 v5 _ _ => (intOf v0).toNat - (intOf v5).toNat)
  case atStart => exact ⟨0, 30, rfl, rfl, by omega, by omega, Lib.hid ⟨fun i h => by omega, fun i h1 h2 => by omega⟩, Fr.refl _ _⟩
  case round =>
    obtain ⟨lo, hi, rfl, rfl, hlh, hhi, hp, hf⟩ := hrel
    have hlb : (lo : Int) ≤ 30 := by omega
    have hhb : (hi : Int) ≤ 30 := by omega
    by_cases hlt : lo < hi
    · have hlti : (lo : Int) < (hi : Int) := by omega
      obtain ⟨m, hm⟩ : ∃ m, (lo + hi) / 2 = m := ⟨_, rfl⟩
      have em : ((lo : Int) + (hi : Int)) / 2 = (m : Int) := by omega
      have hmb : (m : Int) ≤ 30 := by omega
      have HS := Lib.hid (dist_so b m n wr (by omega) HB.out.1 (hf.blk HB.out.2 (by simp)))
      have HP := Lib.hid (And.intro hp.out (And.intro hf hm))
      obtain ⟨v, hv⟩ : ∃ v, distF m = v := ⟨_, rfl⟩
      rw [hv] at HS
      have HV := Lib.hid hv
      clear hp hf hm hv
      by_cases hnv : n < v
      · have hd : decide (n < v) = true := by simp; exact hnv
        rw [hd] at HS
        clear hd
        go_wp2_with fail
        refine HS.out.mono ?_
        rintro e w1 ⟨rfl, f1⟩
        have F1 := Lib.hid (HP.out.2.1.trans f1)
        clear f1
        go_wp2_with fail
        obtain ⟨⟨h1, h2⟩, h3, h4⟩ := HP.out
        exact ⟨⟨lo, m, rfl, rfl, by omega, by omega, Lib.hid ⟨h1, fun i hi1 hi2 => by
          have h5 : distF _ ≤ distF _ := near_up m (by omega) i hi2 (by omega)
          have h6 := HV.out
          omega⟩, F1.out⟩, by simp [intOf]; omega⟩
      · have hd : decide (n < v) = false := by simp; omega
        rw [hd] at HS
        clear hd
        go_wp2_with fail
        refine HS.out.mono ?_
        rintro e w1 ⟨rfl, f1⟩
        have F1 := Lib.hid (HP.out.2.1.trans f1)
        clear f1
        go_wp2_with fail
        obtain ⟨⟨h1, h2⟩, h3, h4⟩ := HP.out
        exact ⟨⟨m + 1, hi, by go_num, rfl, by omega, by omega, Lib.hid ⟨fun i hi1 => by
          have h5 : distF _ ≤ distF _ := near_up i (by omega) m (by omega) (by omega)
          have h6 := HV.out
          omega, h2⟩, F1.out⟩, by simp [intOf]; omega⟩
    · have hd : decide (lo < hi) = false := by simp; omega
      have hle : lo = hi := by omega
      have HP := Lib.hid (And.intro hp.out (And.intro hf hle))
      clear hp hf hle
      go_wp2_with fail
      go_ret
      obtain ⟨⟨h1, h2⟩, h3, h4⟩ := HP.out
      exact ⟨lo, rfl, ⟨by omega, h1, by rw [h4]; exact h2⟩, h3⟩
end Go.Proofs.Ytciejmlhdmjajaa

