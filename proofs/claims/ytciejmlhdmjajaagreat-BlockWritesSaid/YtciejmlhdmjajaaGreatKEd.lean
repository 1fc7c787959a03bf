/- Package symbol: how many bits tell a length, a distance; the least of a symbol. Package symbol: which symbol a length has, a distance. Package symbol: what tells a length, what tells a distance. Tokens; which may be. -/
import Derived.Test.YtciejmlhdmjajaaGreatKRg
import Derived.IntWalk
namespace Go.Proofs.YtciejmlhdmjajaaGreat
open Go.RowKit
set_option linter.unusedVariables false
set_option linter.unusedSimpArgs false

/-- How many bits more a length's symbol has; a distance's. -/
def lbN (s : Nat) : Nat := if s < 265 ∨ s = 285 then 0 else (s - 265) / 4 + 1
def dbN (s : Nat) : Nat := if s < 4 then 0 else s / 2 - 1
set_option maxRecDepth 100000 in
set_option maxHeartbeats 1600000 in
theorem lengthBits_ok (s : Nat) (w : World) (h0 : 257 ≤ s) (h1 : s ≤ 285) : Calls Tryz.prog 81 #[.int .i64 (s : Int)] w fun e w' => e = .returned (.tuple #[.int .i64 (lbN s : Nat), .bool true]) ∧ w' = w := by
  have h0i : 257 ≤ (s : Int) := by omega
  have h1i : (s : Int) ≤ 285 := by omega
  by_cases ha : s < 265
  · have HE := Lib.hid (show lbN s = 0 by unfold lbN; rw [if_pos (.inl ha)])
    have hai : (s : Int) < 265 := by omega
    clear ha h0 h1
    go_enter Tryz.func81, Tryz.ntmps81
    go_wp2_with fail
    go_ret2
    rw [HE.out]
    exact ⟨rfl, rfl⟩
  · by_cases hb : s = 285
    · subst hb
      go_enter Tryz.func81, Tryz.ntmps81
      go_wp2_with fail
      go_ret2
      exact ⟨rfl, rfl⟩
    · have hai : 265 ≤ (s : Int) := by omega
      have hbi : ((s : Int) == 285) = false := by rw [beq_eq_false_iff_ne]; omega
      obtain ⟨d, hd⟩ : ∃ d, s - 265 = d := ⟨_, rfl⟩
      have ed : (s : Int) - 265 = (d : Int) := by omega
      have hdb : (d : Int) ≤ 20 := by omega
      obtain ⟨b, hb2⟩ : ∃ b, lbN s = b := ⟨_, rfl⟩
      have eb : (d : Int) / 4 + 1 = (b : Int) := by rw [← hb2]; unfold lbN; rw [if_neg (by omega), ← hd]; omega
      rw [hb2]
      have EB := Lib.hid eb
      clear ha h0 h1 eb hb2
      go_enter Tryz.func81, Tryz.ntmps81
      go_wp2_with fail
      go_ret2
      rw [← EB.out]
      exact ⟨rfl, rfl⟩
set_option maxRecDepth 100000 in
set_option maxHeartbeats 1600000 in
theorem distBits_ok (s : Nat) (w : World) (h1 : s ≤ 29) : Calls Tryz.prog 84 #[.int .i64 (s : Int)] w fun e w' => e = .returned (.tuple #[.int .i64 (dbN s : Nat), .bool true]) ∧ w' = w := by
  have h0i : 0 ≤ (s : Int) := by omega
  have h1i : (s : Int) ≤ 29 := by omega
  by_cases ha : s < 4
  · have HE := Lib.hid (show dbN s = 0 by unfold dbN; rw [if_pos ha])
    have hai : (s : Int) < 4 := by omega
    clear ha h1
    go_enter Tryz.func84, Tryz.ntmps84
    go_wp2_with fail
    go_ret2
    rw [HE.out]
    exact ⟨rfl, rfl⟩
  · have hai : 4 ≤ (s : Int) := by omega
    obtain ⟨b, hb2⟩ : ∃ b, dbN s = b := ⟨_, rfl⟩
    have eb : (s : Int) / 2 - 1 = (b : Int) := by rw [← hb2]; unfold dbN; rw [if_neg ha]; omega
    rw [hb2]
    have EB := Lib.hid eb
    clear h1 eb hb2 ha
    go_enter Tryz.func84, Tryz.ntmps84
    go_wp2_with fail
    go_ret2
    rw [← EB.out]
    exact ⟨rfl, rfl⟩
theorem and3 : ∀ d : Nat, d < 64 → bits BinOp.and IntKind.i64 (d : Int) 3 = ((d % 4 : Nat) : Int) := by decide +kernel
theorem and1 : ∀ d : Nat, d < 64 → bits BinOp.and IntKind.i64 (d : Int) 1 = ((d % 2 : Nat) : Int) := by decide +kernel
/-- What is shifted up, in so many bits. -/
theorem up64 (x b c : Nat) (hx : x ≤ 7) (hb : b ≤ 13) (hc : c ≤ 3) (y : Int) (hy : y = (x : Int)) : wrap64 (wrap64 (y * 2 ^ b) + (c : Int)) = ((x * 2 ^ b + c : Nat) : Int) := by
  subst hy
  have h1 : 2 ^ b ≤ 2 ^ 13 := Nat.pow_le_pow_right (by decide) hb
  have h2 : x * 2 ^ b ≤ 7 * 2 ^ 13 := Nat.mul_le_mul hx h1
  have e : (x : Int) * 2 ^ b = ((x * 2 ^ b : Nat) : Int) := by rw [Int.natCast_mul, Int.natCast_pow]; rfl
  rw [e]
  obtain ⟨z, hz⟩ : ∃ z, x * 2 ^ b = z := ⟨_, rfl⟩
  rw [hz] at h2 ⊢
  rw [IntWalk.wrap64_in (z : Int) ⟨by omega, by omega⟩, IntWalk.wrap64_in _ ⟨by omega, by omega⟩]
  omega
/-- The least length of a symbol; the least distance. -/
def leastN (s : Nat) : Nat := if s = 285 then 258 else if s < 265 then s - 254 else (4 + (s - 265) % 4) * 2 ^ lbN s + 3
def nearN (s : Nat) : Nat := if s < 4 then s + 1 else (2 + s % 2) * 2 ^ dbN s + 1
set_option maxRecDepth 100000 in
set_option maxHeartbeats 1600000 in
theorem least_any (s : Nat) (w : World) (h0 : 257 ≤ s) (h1 : s ≤ 285) : Calls Tryz.prog 80 #[.int .i64 (s : Int)] w fun e w' => e = .returned (.int .i64 (leastN s : Nat)) ∧ w' = w := by
  have h0i : 257 ≤ (s : Int) := by omega
  have h1i : (s : Int) ≤ 285 := by omega
  have HB := Lib.hid (lengthBits_ok s w h0 h1)
  by_cases hb : s = 285
  · subst hb
    have HB2 := Lib.hid (show Calls Tryz.prog 81 #[.int .i64 285] w fun e w' => e = .returned (.tuple #[.int .i64 0, .bool true]) ∧ w' = w from HB.out)
    clear HB h0 h1
    go_enter Tryz.func80, Tryz.ntmps80
    go_wp2_with fail
    refine HB2.out.mono ?_
    rintro e w1 ⟨rfl, hw⟩
    replace hw := hw.symm
    subst hw
    go_wp2_with fail
    go_ret
    exact ⟨rfl, rfl⟩
  · have hbi : ((s : Int) == 285) = false := by rw [beq_eq_false_iff_ne]; omega
    by_cases ha : s < 265
    · have hE : leastN s = s - 254 := by unfold leastN; rw [if_neg hb, if_pos ha]
      have hB0 : lbN s = 0 := by unfold lbN; rw [if_pos (.inl ha)]
      rw [hB0] at HB
      have HB2 := Lib.hid (show Calls Tryz.prog 81 #[.int .i64 (s : Int)] w fun e w' => e = .returned (.tuple #[.int .i64 0, .bool true]) ∧ w' = w from HB.out)
      have HE := Lib.hid (show (s : Int) - 254 = ((leastN s : Nat) : Int) by rw [hE]; omega)
      clear hE hB0 HB h0 h1 ha hb
      go_enter Tryz.func80, Tryz.ntmps80
      go_wp2_with fail
      refine HB2.out.mono ?_
      rintro e w1 ⟨rfl, hw⟩
      replace hw := hw.symm
      subst hw
      go_wp2_with fail
      go_ret
      rw [← HE.out]
      exact ⟨rfl, rfl⟩
    · obtain ⟨b, hb2⟩ : ∃ b, lbN s = b := ⟨_, rfl⟩
      have hb5 : 1 ≤ b ∧ b ≤ 5 := by rw [← hb2]; unfold lbN; rw [if_neg (by omega)]; omega
      rw [hb2] at HB
      obtain ⟨d, hd⟩ : ∃ d, s - 265 = d := ⟨_, rfl⟩
      have ed : (s : Int) - 265 = (d : Int) := by omega
      have hdb : (d : Int) ≤ 19 := by omega
      have hE : leastN s = (4 + d % 4) * 2 ^ b + 3 := by unfold leastN; rw [if_neg hb, if_neg ha, hb2, hd]
      have hb0 : ((b : Int) == 0) = false := by rw [beq_eq_false_iff_ne]; omega
      have hb6 : (b : Int) ≤ 5 := by omega
      have HE := Lib.hid hE
      clear hE h0 h1 ha hb hb2 hb5 hd
      go_enter Tryz.func80, Tryz.ntmps80
      go_wp2_with fail
      refine HB.out.mono ?_
      rintro e w1 ⟨rfl, hw⟩
      replace hw := hw.symm
      subst hw
      go_wp2_with fail
      go_ret
      have h3 := up64 (4 + d % 4) b 3 (by omega) (by omega) (by omega) (wrap64 (4 + bits BinOp.and IntKind.i64 (d : Int) 3)) (by rw [and3 d (by omega), IntWalk.wrap64_in _ ⟨by omega, by omega⟩]; omega)
      rw [HE.out, ← h3]
      exact ⟨rfl, rfl⟩
set_option maxRecDepth 100000 in
set_option maxHeartbeats 1600000 in
theorem near_any (s : Nat) (w : World) (h1 : s ≤ 29) : Calls Tryz.prog 83 #[.int .i64 (s : Int)] w fun e w' => e = .returned (.int .i64 (nearN s : Nat)) ∧ w' = w := by
  have h0i : 0 ≤ (s : Int) := by omega
  have h1i : (s : Int) ≤ 29 := by omega
  have HB := Lib.hid (distBits_ok s w h1)
  by_cases ha : s < 6 ∧ (s < 4)
  · have hE : nearN s = s + 1 := by unfold nearN; rw [if_pos ha.2]
    have hB0 : dbN s = 0 := by unfold dbN; rw [if_pos ha.2]
    rw [hB0] at HB
    have HB2 := Lib.hid (show Calls Tryz.prog 84 #[.int .i64 (s : Int)] w fun e w' => e = .returned (.tuple #[.int .i64 0, .bool true]) ∧ w' = w from HB.out)
    have HE := Lib.hid (show (s : Int) + 1 = ((nearN s : Nat) : Int) by rw [hE]; omega)
    clear hE hB0 HB h1 ha
    go_enter Tryz.func83, Tryz.ntmps83
    go_wp2_with fail
    refine HB2.out.mono ?_
    rintro e w1 ⟨rfl, hw⟩
    replace hw := hw.symm
    subst hw
    go_wp2_with fail
    go_ret
    rw [← HE.out]
    exact ⟨rfl, rfl⟩
  · have ha4 : 4 ≤ s := by omega
    obtain ⟨b, hb2⟩ : ∃ b, dbN s = b := ⟨_, rfl⟩
    have hb5 : 1 ≤ b ∧ b ≤ 13 := by rw [← hb2]; unfold dbN; rw [if_neg (by omega)]; omega
    rw [hb2] at HB
    have hE : nearN s = (2 + s % 2) * 2 ^ b + 1 := by unfold nearN; rw [if_neg (by omega), hb2]
    have hb0 : ((b : Int) == 0) = false := by rw [beq_eq_false_iff_ne]; omega
    have hb6 : (b : Int) ≤ 13 := by omega
    have HE := Lib.hid hE
    clear hE h1 ha ha4 hb2 hb5
    go_enter Tryz.func83, Tryz.ntmps83
    go_wp2_with fail
    refine HB.out.mono ?_
    rintro e w1 ⟨rfl, hw⟩
    replace hw := hw.symm
    subst hw
    go_wp2_with fail
    go_ret
    have h3 := up64 (2 + s % 2) b 1 (by omega) (by omega) (by omega) (wrap64 (2 + bits BinOp.and IntKind.i64 (s : Int) 1)) (by rw [and1 s (by omega), IntWalk.wrap64_in _ ⟨by omega, by omega⟩]; omega)
    rw [HE.out, ← h3]
    exact ⟨rfl, rfl⟩
end Go.Proofs.YtciejmlhdmjajaaGreat
namespace Go.Proofs.YtciejmlhdmjajaaGreat
open Go.RowKit
set_option linter.unusedVariables false
set_option linter.unusedSimpArgs false

theorem least_up : ∀ i : Nat, i < 29 → ∀ j : Nat, j < 29 → i ≤ j → leastN (257 + i) ≤ leastN (257 + j) := by decide +kernel
theorem near_up : ∀ i : Nat, i < 30 → ∀ j : Nat, j < 30 → i ≤ j → nearN i ≤ nearN j := by decide +kernel
theorem least_le : ∀ i : Nat, i < 29 → 3 ≤ leastN (257 + i) ∧ leastN (257 + i) ≤ 258 := by decide +kernel
theorem near_le : ∀ i : Nat, i < 30 → 1 ≤ nearN i ∧ nearN i ≤ 24577 := by decide +kernel
/-- How many of the first N do not come up to n. -/
def Upto (f : Nat → Nat) (N n r : Nat) : Prop := r ≤ N ∧ (∀ i, i < r → f i ≤ n) ∧ ∀ i, r ≤ i → i < N → n < f i
def lengthF (i : Nat) : Nat := leastN (257 + i)
def distF (i : Nat) : Nat := nearN i
set_option maxRecDepth 100000 in
set_option maxHeartbeats 1600000 in
theorem length_so (b i n : Nat) (w : World) (hi : i < 29) (hn : n ≤ 32768) (hb : w.heap[b]? = some (.cells #[.int .i64 (n : Int)] 3 (0, 0))) :
    Calls Tryz.prog 79 #[.int .i64 (i : Int), .pointer (some ⟨b, 0, none⟩)] w fun e w' => e = .returned (.bool (decide (n < lengthF i))) ∧ Fr [] w w' := by
  have c0 := cell_of hb 0
  have hlt := lt_of hb
  simp at c0
  have hii : (i : Int) < 29 := by omega
  have hni : (n : Int) ≤ 32768 := by omega
  obtain ⟨s, hs⟩ : ∃ s, 257 + i = s := ⟨_, rfl⟩
  have es : (257 : Int) + (i : Int) = (s : Int) := by omega
  obtain ⟨v, hv⟩ : ∃ v, lengthF i = v := ⟨_, rfl⟩
  have hvb : v ≤ 32768 := by have := least_le i hi; unfold lengthF at hv; omega
  have hvi : (v : Int) ≤ 32768 := by omega
  have HL := Lib.hid (fun W => least_any s W (by omega) (by omega))
  have hv2 : leastN s = v := by rw [← hs]; exact hv
  rw [hv2] at HL
  rw [hv]
  clear hi hn hb hs hv hvb hv2
  go_enter Tryz.func79, Tryz.ntmps79
  go_wp2_with fail
  refine wp_region_quiet_tail 5 (by kernel_rfl) (by kernel_rfl) ?_
  simp only [List.take_succ_cons, List.take_zero, List.drop_succ_cons, List.drop_zero]
  repeat go_big_quiet_step (fail)
  (go_big_quiet_want; go_big_quiet_op; refine ⟨_, HL.out _, ?_⟩; go_big_quiet_on)
  repeat go_big_quiet_step (fail)
  refine wpQuiet_nil ?_
  go_wp2_with fail
  go_ret
  exact ⟨by simp, Fr.drew (Fr.refl _ _)⟩
set_option maxRecDepth 100000 in
set_option maxHeartbeats 3200000 in
theorem length_search (b n : Nat) (w : World) (hn : n ≤ 32768) (hb : w.heap[b]? = some (.cells #[.int .i64 (n : Int)] 3 (0, 0))) :
    Calls Tryz.prog 78 #[.int .i64 29, .func (.func 79) #[] #[.pointer (some ⟨b, 0, none⟩)]] w fun e w' => ∃ r, e = .returned (.int .i64 ((r : Nat) : Int)) ∧ Upto lengthF 29 n r ∧ Fr [] w w' := by
  have HB := Lib.hid (And.intro hn hb)
  clear hn hb
  go_enter Tryz.func78, Tryz.ntmps78
  go_wp2_with fail
  go_loopw [0, 5, 6] (fun v0 v5 _ wr => ∃ lo hi : Nat, v5 = .int .i64 (lo : Int) ∧ v0 = .int .i64 (hi : Int) ∧ lo ≤ hi ∧ hi ≤ 29 ∧ Hid ((∀ i, i < lo → lengthF i ≤ n) ∧ ∀ i, hi ≤ i → i < 29 → n < lengthF i) ∧ Fr [] w wr) (fun v0 v5 _ _ => (intOf v0).toNat - (intOf v5).toNat)
  case atStart => exact ⟨0, 29, rfl, rfl, by omega, by omega, Lib.hid ⟨fun i h => by omega, fun i h1 h2 => by omega⟩, Fr.refl _ _⟩
  case round =>
    obtain ⟨lo, hi, rfl, rfl, hlh, hhi, hp, hf⟩ := hrel
    have hlb : (lo : Int) ≤ 29 := by omega
    have hhb : (hi : Int) ≤ 29 := by omega
    by_cases hlt : lo < hi
    · have hlti : (lo : Int) < (hi : Int) := by omega
      obtain ⟨m, hm⟩ : ∃ m, (lo + hi) / 2 = m := ⟨_, rfl⟩
      have em : ((lo : Int) + (hi : Int)) / 2 = (m : Int) := by omega
      have hmb : (m : Int) ≤ 29 := by omega
      have HS := Lib.hid (length_so b m n wr (by omega) HB.out.1 (hf.blk HB.out.2 (by simp)))
      have HP := Lib.hid (And.intro hp.out (And.intro hf hm))
      obtain ⟨v, hv⟩ : ∃ v, lengthF m = v := ⟨_, rfl⟩
      rw [hv] at HS
      have HV := Lib.hid hv
      clear hp hf hm hv
      by_cases hnv : n < v
      · have hd : decide (n < v) = true := by simp; exact hnv
        rw [hd] at HS
        clear hd
        go_wp2_with fail
        refine HS.out.mono ?_
        rintro e w1 ⟨rfl, f1⟩
        have F1 := Lib.hid (HP.out.2.1.trans f1)
        clear f1
        go_wp2_with fail
        obtain ⟨⟨h1, h2⟩, h3, h4⟩ := HP.out
        exact ⟨⟨lo, m, rfl, rfl, by omega, by omega, Lib.hid ⟨h1, fun i hi1 hi2 => by
          have h5 : lengthF _ ≤ lengthF _ := least_up m (by omega) i hi2 (by omega)
          have h6 := HV.out
          omega⟩, F1.out⟩, by simp [intOf]; omega⟩
      · have hd : decide (n < v) = false := by simp; omega
        rw [hd] at HS
        clear hd
        go_wp2_with fail
        refine HS.out.mono ?_
        rintro e w1 ⟨rfl, f1⟩
        have F1 := Lib.hid (HP.out.2.1.trans f1)
        clear f1
        go_wp2_with fail
        obtain ⟨⟨h1, h2⟩, h3, h4⟩ := HP.out
        exact ⟨⟨m + 1, hi, by go_num, rfl, by omega, by omega, Lib.hid ⟨fun i hi1 => by
          have h5 : lengthF _ ≤ lengthF _ := least_up i (by omega) m (by omega) (by omega)
          have h6 := HV.out
          omega, h2⟩, F1.out⟩, by simp [intOf]; omega⟩
    · have hd : decide (lo < hi) = false := by simp; omega
      have hle : lo = hi := by omega
      have HP := Lib.hid (And.intro hp.out (And.intro hf hle))
      clear hp hf hle
      go_wp2_with fail
      go_ret
      obtain ⟨⟨h1, h2⟩, h3, h4⟩ := HP.out
      exact ⟨lo, rfl, ⟨by omega, h1, by rw [h4]; exact h2⟩, h3⟩
set_option maxRecDepth 100000 in
set_option maxHeartbeats 1600000 in
theorem dist_so (b i n : Nat) (w : World) (hi : i < 30) (hn : n ≤ 32768) (hb : w.heap[b]? = some (.cells #[.int .i64 (n : Int)] 3 (0, 0))) :
    Calls Tryz.prog 82 #[.int .i64 (i : Int), .pointer (some ⟨b, 0, none⟩)] w fun e w' => e = .returned (.bool (decide (n < distF i))) ∧ Fr [] w w' := by
  have c0 := cell_of hb 0
  have hlt := lt_of hb
  simp at c0
  have hii : (i : Int) < 30 := by omega
  have hni : (n : Int) ≤ 32768 := by omega
  obtain ⟨v, hv⟩ : ∃ v, distF i = v := ⟨_, rfl⟩
  have hvb : v ≤ 32768 := by have := near_le i hi; unfold distF at hv; omega
  have hvi : (v : Int) ≤ 32768 := by omega
  have HL := Lib.hid (fun W => near_any i W (by omega))
  have hv2 : nearN i = v := hv
  rw [hv2] at HL
  rw [hv]
  clear hi hn hb hv hvb hv2
  go_enter Tryz.func82, Tryz.ntmps82
  go_wp2_with fail
  refine wp_region_quiet_tail 4 (by kernel_rfl) (by kernel_rfl) ?_
  simp only [List.take_succ_cons, List.take_zero, List.drop_succ_cons, List.drop_zero]
  repeat go_big_quiet_step (fail)
  (go_big_quiet_want; go_big_quiet_op; refine ⟨_, HL.out _, ?_⟩; go_big_quiet_on)
  repeat go_big_quiet_step (fail)
  refine wpQuiet_nil ?_
  go_wp2_with fail
  go_ret
  exact ⟨by simp, Fr.drew (Fr.refl _ _)⟩
set_option maxRecDepth 100000 in
set_option maxHeartbeats 3200000 in
theorem dist_search (b n : Nat) (w : World) (hn : n ≤ 32768) (hb : w.heap[b]? = some (.cells #[.int .i64 (n : Int)] 3 (0, 0))) :
    Calls Tryz.prog 78 #[.int .i64 30, .func (.func 82) #[] #[.pointer (some ⟨b, 0, none⟩)]] w fun e w' => ∃ r, e = .returned (.int .i64 ((r : Nat) : Int)) ∧ Upto distF 30 n r ∧ Fr [] w w' := by
  have HB := Lib.hid (And.intro hn hb)
  clear hn hb
  go_enter Tryz.func78, Tryz.ntmps78
  go_wp2_with fail
  go_loopw [0, 5, 6] (fun v0 v5 _ wr => ∃ lo hi : Nat, v5 = .int .i64 (lo : Int) ∧ v0 = .int .i64 (hi : Int) ∧ lo ≤ hi ∧ hi ≤ 30 ∧ Hid ((∀ i, i < lo → distF i ≤ n) ∧ ∀ i, hi ≤ i → i < 30 → n < distF i) ∧ Fr [] w wr) (fun v0 v5 _ _ => (intOf v0).toNat - (intOf v5).toNat)
  case atStart => exact ⟨0, 30, rfl, rfl, by omega, by omega, Lib.hid ⟨fun i h => by omega, fun i h1 h2 => by omega⟩, Fr.refl _ _⟩
  case round =>
    obtain ⟨lo, hi, rfl, rfl, hlh, hhi, hp, hf⟩ := hrel
    have hlb : (lo : Int) ≤ 30 := by omega
    have hhb : (hi : Int) ≤ 30 := by omega
    by_cases hlt : lo < hi
    · have hlti : (lo : Int) < (hi : Int) := by omega
      obtain ⟨m, hm⟩ : ∃ m, (lo + hi) / 2 = m := ⟨_, rfl⟩
      have em : ((lo : Int) + (hi : Int)) / 2 = (m : Int) := by omega
      have hmb : (m : Int) ≤ 30 := by omega
      have HS := Lib.hid (dist_so b m n wr (by omega) HB.out.1 (hf.blk HB.out.2 (by simp)))
      have HP := Lib.hid (And.intro hp.out (And.intro hf hm))
      obtain ⟨v, hv⟩ : ∃ v, distF m = v := ⟨_, rfl⟩
      rw [hv] at HS
      have HV := Lib.hid hv
      clear hp hf hm hv
      by_cases hnv : n < v
      · have hd : decide (n < v) = true := by simp; exact hnv
        rw [hd] at HS
        clear hd
        go_wp2_with fail
        refine HS.out.mono ?_
        rintro e w1 ⟨rfl, f1⟩
        have F1 := Lib.hid (HP.out.2.1.trans f1)
        clear f1
        go_wp2_with fail
        obtain ⟨⟨h1, h2⟩, h3, h4⟩ := HP.out
        exact ⟨⟨lo, m, rfl, rfl, by omega, by omega, Lib.hid ⟨h1, fun i hi1 hi2 => by
          have h5 : distF _ ≤ distF _ := near_up m (by omega) i hi2 (by omega)
          have h6 := HV.out
          omega⟩, F1.out⟩, by simp [intOf]; omega⟩
      · have hd : decide (n < v) = false := by simp; omega
        rw [hd] at HS
        clear hd
        go_wp2_with fail
        refine HS.out.mono ?_
        rintro e w1 ⟨rfl, f1⟩
        have F1 := Lib.hid (HP.out.2.1.trans f1)
        clear f1
        go_wp2_with fail
        obtain ⟨⟨h1, h2⟩, h3, h4⟩ := HP.out
        exact ⟨⟨m + 1, hi, by go_num, rfl, by omega, by omega, Lib.hid ⟨fun i hi1 => by
          have h5 : distF _ ≤ distF _ := near_up i (by omega) m (by omega) (by omega)
          have h6 := HV.out
          omega, h2⟩, F1.out⟩, by simp [intOf]; omega⟩
    · have hd : decide (lo < hi) = false := by simp; omega
      have hle : lo = hi := by omega
      have HP := Lib.hid (And.intro hp.out (And.intro hf hle))
      clear hp hf hle
      go_wp2_with fail
      go_ret
      obtain ⟨⟨h1, h2⟩, h3, h4⟩ := HP.out
      exact ⟨lo, rfl, ⟨by omega, h1, by rw [h4]; exact h2⟩, h3⟩
end Go.Proofs.YtciejmlhdmjajaaGreat
namespace Go.Proofs.YtciejmlhdmjajaaGreat
open Go.RowKit
set_option linter.unusedVariables false
set_option linter.unusedSimpArgs false

theorem results_tmp4 {fn : Func} {t u v x : Tmp} (h : fn.results = #[.tmp t, .tmp u, .tmp v, .tmp x]) (tmps : Array Value) (P : Program) (w : World) :
    (results fn tmps).run P w = .ok (.tuple #[tmps.getD t undef, tmps.getD u undef, tmps.getD v undef, tmps.getD x undef]) w := by
  simp [results, h]
theorem alloc_last (w : World) (o : Obj) : (w.alloc o).heap[w.heap.size]? = some o := by
  show (w.heap.push o)[w.heap.size]? = some o
  simp
theorem lb_le : ∀ s : Nat, s ≤ 285 → lbN s ≤ 6 := by
  intro s h; unfold lbN; split <;> omega
theorem db_le : ∀ s : Nat, s ≤ 29 → dbN s ≤ 13 := by
  intro s h; unfold dbN; split <;> omega
set_option maxRecDepth 100000 in
set_option maxHeartbeats 1600000 in
theorem length_no (n : Int) (w : World) (hn : n < 3 ∨ 258 < n) (h63 : -9223372036854775808 ≤ n ∧ n ≤ 9223372036854775807) :
    Calls Tryz.prog 57 #[.int .i64 n] w fun e w' => e = .returned (.tuple #[.int .i64 0, .int .u32 0, .int .i64 0, .bool false]) ∧ Fr [] w w' := by
  by_cases h3 : n < 3
  · clear hn
    go_enter Tryz.func57, Tryz.ntmps57
    go_wp2_with fail
    ((try simp only [Exit.inBlock, Exit.then]); refine bodyPost_ret (results_tmp4 rfl _ _ _) rfl ?_)
    exact ⟨rfl, (Fr.alloc _ _ _)⟩
  · have h4 : 258 < n := by omega
    have h5 : ¬ n < 3 := h3
    clear hn h3
    go_enter Tryz.func57, Tryz.ntmps57
    go_wp2_with fail
    ((try simp only [Exit.inBlock, Exit.then]); refine bodyPost_ret (results_tmp4 rfl _ _ _) rfl ?_)
    exact ⟨rfl, (Fr.alloc _ _ _)⟩
set_option maxRecDepth 100000 in
set_option maxHeartbeats 1600000 in
theorem dist_no (n : Int) (w : World) (hn : n < 1 ∨ 32768 < n) (h63 : -9223372036854775808 ≤ n ∧ n ≤ 9223372036854775807) :
    Calls Tryz.prog 58 #[.int .i64 n] w fun e w' => e = .returned (.tuple #[.int .i64 0, .int .u32 0, .int .i64 0, .bool false]) ∧ Fr [] w w' := by
  by_cases h3 : n < 1
  · clear hn
    go_enter Tryz.func58, Tryz.ntmps58
    go_wp2_with fail
    ((try simp only [Exit.inBlock, Exit.then]); refine bodyPost_ret (results_tmp4 rfl _ _ _) rfl ?_)
    exact ⟨rfl, (Fr.alloc _ _ _)⟩
  · have h4 : 32768 < n := by omega
    have h5 : ¬ n < 1 := h3
    clear hn h3
    go_enter Tryz.func58, Tryz.ntmps58
    go_wp2_with fail
    ((try simp only [Exit.inBlock, Exit.then]); refine bodyPost_ret (results_tmp4 rfl _ _ _) rfl ?_)
    exact ⟨rfl, (Fr.alloc _ _ _)⟩
set_option maxRecDepth 100000 in
set_option maxHeartbeats 1600000 in
theorem length_yes (n : Nat) (w : World) (h3 : 3 ≤ n) (h258 : n ≤ 258) :
    Calls Tryz.prog 57 #[.int .i64 (n : Int)] w fun e w' => (∃ r : Nat, e = .returned (.tuple #[.int .i64 ((256 + r : Nat) : Int), .int .u32 ((n - leastN (256 + r) : Nat) : Int), .int .i64 (lbN (256 + r) : Nat), .bool true]) ∧ 1 ≤ r ∧ r ≤ 29 ∧ Upto lengthF 29 n r ∧ leastN (256 + r) ≤ n) ∧ Fr [] w w' := by
  have h3i : (3 : Int) ≤ (n : Int) := by omega
  have h4i : (n : Int) ≤ 258 := by omega
  have HS := Lib.hid (length_search w.heap.size n)
  have HN := Lib.hid (And.intro h3 h258)
  clear h3 h258
  go_enter Tryz.func57, Tryz.ntmps57
  go_wp2_with fail
  refine (HS.out _ (by have := HN.out; omega) (alloc_last w _)).mono ?_
  rintro e w1 ⟨r, rfl, hu, f1⟩
  have F1 := Lib.hid ((Fr.alloc [] w _).trans f1)
  have HC := Lib.hid (f1.blk (alloc_last w (.cells #[.int .i64 (n : Int)] 3 (0, 0))) (by simp))
  have hlt1 := lt_of HC.out
  have c1 := cell_of HC.out 0
  simp at c1
  clear f1 hlt1
  obtain ⟨hN1, hN2⟩ := HN.out
  have hr1 : 1 ≤ r := by
    rcases Nat.eq_zero_or_pos r with h | h
    · subst h
      have h5 := hu.2.2 0 (by omega) (by omega)
      have h6 : lengthF 0 = 3 := by decide
      omega
    · exact h
  have hr2 : r ≤ 29 := hu.1
  obtain ⟨s, hs⟩ : ∃ s, 256 + r = s := ⟨_, rfl⟩
  have hle : leastN s ≤ n := by
    have h5 := hu.2.1 (r - 1) (by omega)
    unfold lengthF at h5
    rw [show 257 + (r - 1) = s by omega] at h5
    exact h5
  have es : (256 : Int) + (r : Int) = (s : Int) := by omega
  have hsb : (s : Int) ≤ 285 := by omega
  obtain ⟨v, hv⟩ : ∃ v, leastN s = v := ⟨_, rfl⟩
  have hvi : (v : Int) ≤ (n : Int) := by omega
  obtain ⟨d, hd⟩ : ∃ d, n - v = d := ⟨_, rfl⟩
  have ed : (n : Int) - (v : Int) = (d : Int) := by omega
  have hdi : (d : Int) ≤ 258 := by omega
  obtain ⟨b, hb⟩ : ∃ b, lbN s = b := ⟨_, rfl⟩
  have HBITS := Lib.hid (fun W => lengthBits_ok s W (by omega) (by omega))
  have HL := Lib.hid (fun W => least_any s W (by omega) (by omega))
  rw [hb] at HBITS
  rw [hv] at HL
  have HR := Lib.hid (And.intro hr1 (And.intro hr2 (And.intro hu (And.intro hle (And.intro hv (And.intro hd (And.intro hb hs)))))))
  clear hr1 hr2 hu hle hv hd hb hs hN1 hN2
  go_wp2_with fail
  refine (HBITS.out _).mono ?_
  rintro e w2 ⟨rfl, hw⟩
  replace hw := hw.symm
  subst hw
  go_wp2_with fail
  refine wp_region_quiet_lit (by kernel_rfl) (by kernel_rfl) ?_
  repeat go_big_quiet_step (fail)
  (go_big_quiet_want; go_big_quiet_op; first | (refine ⟨_, fun _ => HL.out _, ?_⟩; go_big_quiet_on) | (refine ⟨_, fun _ => Calls.quiet_of_same (HL.out _), ?_⟩; go_big_quiet_on) | skip)
  repeat go_big_quiet_step (fail)
  refine wpQuiet_nil ?_
  intro _ hw'
  obtain ⟨nq, hw''⟩ := hw'
  subst hw''
  go_wp2_with fail
  ((try simp only [Exit.inBlock, Exit.then]); refine bodyPost_ret (results_tmp4 rfl _ _ _) rfl ?_)
  obtain ⟨hr1, hr2, hu, hle, hv, hd, hb, hs⟩ := HR.out
  refine ⟨⟨r, ?_, hr1, hr2, hu, by rw [hs]; exact hle⟩, F1.out.trans (Fr.drewN _ _ _)⟩
  rw [hs, hv, hd, hb]
  simp
set_option maxRecDepth 100000 in
set_option maxHeartbeats 1600000 in
theorem dist_yes (n : Nat) (w : World) (h3 : 1 ≤ n) (h258 : n ≤ 32768) :
    Calls Tryz.prog 58 #[.int .i64 (n : Int)] w fun e w' => (∃ r : Nat, e = .returned (.tuple #[.int .i64 ((r : Nat) : Int), .int .u32 ((n - nearN r : Nat) : Int), .int .i64 (dbN r : Nat), .bool true]) ∧ r ≤ 29 ∧ Upto distF 30 n (r + 1) ∧ nearN r ≤ n) ∧ Fr [] w w' := by
  have h3i : (1 : Int) ≤ (n : Int) := by omega
  have h4i : (n : Int) ≤ 32768 := by omega
  have HS := Lib.hid (dist_search w.heap.size n)
  have HN := Lib.hid (And.intro h3 h258)
  clear h3 h258
  go_enter Tryz.func58, Tryz.ntmps58
  go_wp2_with fail
  refine (HS.out _ (by have := HN.out; omega) (alloc_last w _)).mono ?_
  rintro e w1 ⟨q, rfl, hu, f1⟩
  have F1 := Lib.hid ((Fr.alloc [] w _).trans f1)
  have HC := Lib.hid (f1.blk (alloc_last w (.cells #[.int .i64 (n : Int)] 3 (0, 0))) (by simp))
  have hlt1 := lt_of HC.out
  have c1 := cell_of HC.out 0
  simp at c1
  clear f1 hlt1
  obtain ⟨hN1, hN2⟩ := HN.out
  have hr1 : 1 ≤ q := by
    rcases Nat.eq_zero_or_pos q with h | h
    · subst h
      have h5 := hu.2.2 0 (by omega) (by omega)
      have h6 : distF 0 = 1 := by decide
      omega
    · exact h
  have hr2 : q ≤ 30 := hu.1
  obtain ⟨r, rfl⟩ : ∃ r, q = r + 1 := ⟨q - 1, by omega⟩
  have hle : nearN r ≤ n := hu.2.1 r (by omega)
  have es : ((r + 1 : Nat) : Int) - 1 = (r : Int) := by omega
  have hsb : (r : Int) ≤ 29 := by omega
  obtain ⟨v, hv⟩ : ∃ v, nearN r = v := ⟨_, rfl⟩
  have hvi : (v : Int) ≤ (n : Int) := by omega
  obtain ⟨d, hd⟩ : ∃ d, n - v = d := ⟨_, rfl⟩
  have ed : (n : Int) - (v : Int) = (d : Int) := by omega
  have hdi : (d : Int) ≤ 32768 := by omega
  obtain ⟨b, hb⟩ : ∃ b, dbN r = b := ⟨_, rfl⟩
  have HBITS := Lib.hid (fun W => distBits_ok r W (by omega))
  have HL := Lib.hid (fun W => near_any r W (by omega))
  rw [hb] at HBITS
  rw [hv] at HL
  have HR := Lib.hid (And.intro (show r ≤ 29 by omega) (And.intro hu (And.intro hle (And.intro hv (And.intro hd hb)))))
  clear hr1 hr2 hu hle hv hd hb hN1 hN2
  go_wp2_with fail
  refine (HBITS.out _).mono ?_
  rintro e w2 ⟨rfl, hw⟩
  replace hw := hw.symm
  subst hw
  go_wp2_with fail
  refine wp_region_quiet_lit (by kernel_rfl) (by kernel_rfl) ?_
  repeat go_big_quiet_step (fail)
  (go_big_quiet_want; go_big_quiet_op; first | (refine ⟨_, fun _ => HL.out _, ?_⟩; go_big_quiet_on) | (refine ⟨_, fun _ => Calls.quiet_of_same (HL.out _), ?_⟩; go_big_quiet_on) | skip)
  repeat go_big_quiet_step (fail)
  refine wpQuiet_nil ?_
  intro _ hw'
  obtain ⟨nq, hw''⟩ := hw'
  subst hw''
  go_wp2_with fail
  ((try simp only [Exit.inBlock, Exit.then]); refine bodyPost_ret (results_tmp4 rfl _ _ _) rfl ?_)
  obtain ⟨hr2, hu, hle, hv, hd, hb⟩ := HR.out
  refine ⟨⟨r, ?_, hr2, hu, hle⟩, F1.out.trans (Fr.drewN _ _ _)⟩
  rw [hv, hd, hb]
  simp
end Go.Proofs.YtciejmlhdmjajaaGreat
namespace Go.Proofs.YtciejmlhdmjajaaGreat
open Go.RowKit
set_option linter.unusedVariables false
set_option linter.unusedSimpArgs false

structure Tok where
  lit : Nat
  len : Int
  dist : Int
def Tok.ok (t : Tok) : Prop := t.lit < 256 ∧ (-9223372036854775808 ≤ t.len ∧ t.len ≤ 9223372036854775807) ∧ (-9223372036854775808 ≤ t.dist ∧ t.dist ≤ 9223372036854775807)
def Tok.enc (t : Tok) : List Value := [.int .u8 (t.lit : Int), .int .i64 t.len, .int .i64 t.dist]
def Tok.val (t : Tok) : Value := .agg #[.int .u8 (t.lit : Int), .int .i64 t.len, .int .i64 t.dist]
def Tok.sz : Nat := 3
def Tok.may (t : Tok) : Bool := if t.len = 0 then decide (t.dist = 0) else decide (3 ≤ t.len ∧ t.len ≤ 258 ∧ 1 ≤ t.dist ∧ t.dist ≤ 32768 ∧ t.lit = 0)
set_option maxRecDepth 100000 in
set_option maxHeartbeats 3200000 in
theorem may_tok (t : Tok) (w : World) (h : t.ok) : Calls Tryz.prog 36 #[t.val] w fun e w' => e = .returned (.bool t.may) ∧ Fr [] w w' := by
  obtain ⟨l, n, d⟩ := t
  obtain ⟨h1, ⟨h2, h3⟩, h4, h5⟩ := h
  simp only at h1 h2 h3 h4 h5
  have h1i : (l : Int) < 256 := by omega
  unfold Tok.may Tok.val
  simp only
  by_cases hn : n = 0
  · subst hn
    go_enter Tryz.func36, Tryz.ntmps36
    go_wp2_with fail
    go_ret
    exact ⟨by simp; rw [Bool.eq_iff_iff]; simp, Fr.alloc _ _ _⟩
  · have hnb : (n == 0) = false := by rw [beq_eq_false_iff_ne]; exact hn
    rw [if_neg hn]
    by_cases ha : 3 ≤ n
    · by_cases hb : n ≤ 258
      · by_cases hc : 1 ≤ d
        · by_cases he : d ≤ 32768
          · go_enter Tryz.func36, Tryz.ntmps36
            go_wp2_with fail
            go_ret
            exact ⟨by simp [ha, hb, hc, he]; rw [Bool.eq_iff_iff]; simp, Fr.alloc _ _ _⟩
          · go_enter Tryz.func36, Tryz.ntmps36
            go_wp2_with fail
            go_ret
            exact ⟨by simp [ha, hb, hc, he]; omega, Fr.alloc _ _ _⟩
        · go_enter Tryz.func36, Tryz.ntmps36
          go_wp2_with fail
          go_ret
          exact ⟨by simp [ha, hb, hc]; omega, Fr.alloc _ _ _⟩
      · go_enter Tryz.func36, Tryz.ntmps36
        go_wp2_with fail
        go_ret
        exact ⟨by simp [ha, hb]; omega, Fr.alloc _ _ _⟩
    · go_enter Tryz.func36, Tryz.ntmps36
      go_wp2_with fail
      go_ret
      exact ⟨by simp [ha]; omega, Fr.alloc _ _ _⟩
set_option maxRecDepth 100000 in
set_option maxHeartbeats 3200000 in
theorem refMay_tok (t : Tok) (w : World) (h : t.ok) : Calls Tryz.prog 29 #[t.val] w fun e w' => e = .returned (.bool t.may) ∧ Fr [] w w' := by
  obtain ⟨l, n, d⟩ := t
  obtain ⟨h1, ⟨h2, h3⟩, h4, h5⟩ := h
  simp only at h1 h2 h3 h4 h5
  have h1i : (l : Int) < 256 := by omega
  unfold Tok.may Tok.val
  simp only
  by_cases hn : n = 0
  · subst hn
    go_enter Tryz.func29, Tryz.ntmps29
    go_wp2_with fail
    go_ret
    exact ⟨by simp; rw [Bool.eq_iff_iff]; simp, Fr.alloc _ _ _⟩
  · have hnb : (n == 0) = false := by rw [beq_eq_false_iff_ne]; exact hn
    rw [if_neg hn]
    by_cases ha : 3 ≤ n
    · by_cases hb : n ≤ 258
      · by_cases hc : 1 ≤ d
        · by_cases he : d ≤ 32768
          · go_enter Tryz.func29, Tryz.ntmps29
            go_wp2_with fail
            go_ret
            exact ⟨by simp [ha, hb, hc, he]; rw [Bool.eq_iff_iff]; simp, Fr.alloc _ _ _⟩
          · go_enter Tryz.func29, Tryz.ntmps29
            go_wp2_with fail
            go_ret
            exact ⟨by simp [ha, hb, hc, he]; omega, Fr.alloc _ _ _⟩
        · go_enter Tryz.func29, Tryz.ntmps29
          go_wp2_with fail
          go_ret
          exact ⟨by simp [ha, hb, hc]; omega, Fr.alloc _ _ _⟩
      · go_enter Tryz.func29, Tryz.ntmps29
        go_wp2_with fail
        go_ret
        exact ⟨by simp [ha, hb]; omega, Fr.alloc _ _ _⟩
    · go_enter Tryz.func29, Tryz.ntmps29
      go_wp2_with fail
      go_ret
      exact ⟨by simp [ha]; omega, Fr.alloc _ _ _⟩
end Go.Proofs.YtciejmlhdmjajaaGreat

