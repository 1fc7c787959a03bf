/- The walk of WordTurns. -/
import Derived.Test.YtlognooioemenaaWh
namespace Go.Proofs.Ytlognooioemenaa
open Go.RowKit
set_option linter.unusedVariables false
set_option linter.unusedSimpArgs false

theorem turn_turn (n k : Nat) : turnN (turnN n k) k = n % 2 ^ k := by
  apply Nat.eq_of_testBit_eq
  intro i
  rw [turnN_bit, turnN_bit, Nat.testBit_mod_two_pow]
  by_cases h : i < k
  · rw [decide_eq_true h, decide_eq_true (show k - 1 - i < k by omega), show k - 1 - (k - 1 - i) = i by omega]; simp
  · rw [decide_eq_false h]; simp
theorem turn_low (n k : Nat) : turnN (n % 2 ^ k) k = turnN n k := by
  apply Nat.eq_of_testBit_eq
  intro i
  rw [turnN_bit, turnN_bit, Nat.testBit_mod_two_pow]
  by_cases h : i < k
  · rw [decide_eq_true h, decide_eq_true (show k - 1 - i < k by omega)]; simp
  · rw [decide_eq_false h]; simp
theorem turn_top (n k g : Nat) (h : bl (n % 2 ^ k) = g + 1) (hg : g < k) : turnN n k / 2 ^ (k - 1 - g) % 2 = 1 ∧ turnN n k % 2 ^ (k - 1 - g) = 0 := by
  have ht := bl_top _ _ h
  constructor
  · have : (turnN n k).testBit (k - 1 - g) = true := by
      rw [← turn_low, turnN_bit, decide_eq_true (show k - 1 - g < k by omega), show k - 1 - (k - 1 - g) = g by omega, Nat.testBit_eq_decide_div_mod_eq, ht]; rfl
    rw [Nat.testBit_eq_decide_div_mod_eq] at this
    exact of_decide_eq_true this
  · apply Nat.eq_of_testBit_eq
    intro i
    rw [Nat.testBit_mod_two_pow, Nat.zero_testBit]
    by_cases hi : i < k - 1 - g
    · have hb : n % 2 ^ k < 2 ^ (k - 1 - i) := Nat.lt_of_lt_of_le ((bl_le _ (g + 1)).1 (by omega)) (Nat.pow_le_pow_right (by decide) (by omega))
      rw [← turn_low, turnN_bit, Nat.testBit_lt_two_pow hb]; simp
    · rw [decide_eq_false hi]; rfl
theorem up_mod (n t : Int) (hn : 1 ≤ n) (ht : 1 ≤ t) (hb : n + t ≤ 4611686018427387904) : n ≤ upN n t ∧ upN n t - n < t ∧ upN n t % t = 0 := by
  obtain ⟨q, e, h1, h2⟩ := up_ex n t hn ht hb
  rw [e]
  exact ⟨h1, by omega, by simp⟩

set_option maxRecDepth 100000 in
set_option maxHeartbeats 3200000 in
theorem wordTurns_walk (w : World) (n : Int) (w0 : (Lit.int .u64 n).wf = true) (p : Int) (w1 : (Lit.int .u8 p).wf = true) (u : Int) (w2 : (Lit.int .i32 u).wf = true) (t : Int) (w3 : (Lit.int .i32 t).wf = true) :
    Calls Try.prog 15 #[.int .u64 n, .int .u8 p, .int .i32 u, .int .i32 t] w fun e w' => e = .returned (.bool true) ∧ Below w.heap.size w w' := by
  obtain ⟨n0, n1⟩ := bounds_u64 w0
  obtain ⟨p0, p1⟩ := bounds_u8 w1
  obtain ⟨u0, u1⟩ := bounds_i32 w2
  obtain ⟨t0, t1⟩ := bounds_i32 w3
  obtain ⟨n, rfl⟩ := Int.eq_ofNat_of_zero_le n0
  have hn : n < 2 ^ 64 := by omega
  obtain ⟨k, hk⟩ : ∃ k : Nat, p % 65 = k := ⟨(p % 65).toNat, by omega⟩
  have hk64 : k ≤ 64 := by omega
  have hk' : (k : Int) ≤ 64 := by omega
  have hcl : cl (k : Int) = k := by unfold cl; omega
  obtain ⟨T, hTe⟩ : ∃ T, turnN n k = T := ⟨_, rfl⟩
  obtain ⟨L, hLe⟩ : ∃ L, n % 2 ^ k = L := ⟨_, rfl⟩
  have hT1 : T < 2 ^ k := by rw [← hTe]; exact turnN_lt n k
  have hT64 : T < 2 ^ 64 := Nat.lt_of_lt_of_le hT1 (Nat.pow_le_pow_right (by decide) hk64)
  have hL1 : L < 2 ^ k := by rw [← hLe]; exact Nat.mod_lt _ (Nat.pow_pos (by decide))
  have hL64 : L < 2 ^ 64 := Nat.lt_of_lt_of_le hL1 (Nat.pow_le_pow_right (by decide) hk64)
  have e2 : turnN T k = L := by rw [← hTe, turn_turn, hLe]
  have e3 : turnN L k = T := by rw [← hLe, turn_low, hTe]
  have HT := Lib.hid (show turnN n (cl (k : Int)) = T ∧ turnN T (cl (k : Int)) = L ∧ turnN L (cl (k : Int)) = T by rw [hcl]; exact ⟨hTe, e2, e3⟩)
  obtain ⟨M, hM⟩ : ∃ M, maskN (k : Int) = M := ⟨_, rfl⟩
  have hMk : M = 2 ^ k - 1 := by rw [← hM]; unfold maskN; rw [show min (k : Int).toNat 64 = k by omega]
  have hand : bits .and .u64 (n : Int) (M : Int) = (L : Int) := by rw [hMk, and_mask n k hn hk64, hLe]
  have hnot : bits .andNot .u64 (T : Int) (M : Int) = 0 := by rw [hMk, andNot_mask T k hT64 hk64, Nat.div_eq_of_lt hT1]; simp
  have HM := Lib.hid hM
  clear hM hMk hT1 e2 e3 hcl w0 w1 w2 w3 n0
  have key : Calls Try.prog 15 #[.int .u64 n, .int .u8 p, .int .i32 u, .int .i32 t] w fun e w' => e = .returned (.bool true) ∧ Fr [] w w' := by
    by_cases hz : L = 0
    · subst hz
      clear hTe hLe hL1
      by_cases hu : u < 1
      · have hx : upN u t = 0 := by unfold upN; rw [if_pos (.inl hu)]
        have HX := Lib.hid hx
        clear hx
        go_enter Try.func15, Try.ntmps15
        go_wp2_with fail
        refine (turn_any n _ _ hn (by omega) (by omega)).mono ?_
        rintro e w1 ⟨rfl, rfl⟩
        rw [HT.out.1]
        go_wp2_with fail
        refine (mask_any _ _).mono ?_
        rintro e w1 ⟨rfl, rfl⟩
        rw [HM.out]
        go_wp2_with fail
        refine (turn_any T _ _ hT64 (by omega) (by omega)).mono ?_
        rintro e w1 ⟨rfl, rfl⟩
        rw [HT.out.2.1]
        go_wp2_with fail
        refine (mask_any _ _).mono ?_
        rintro e w1 ⟨rfl, rfl⟩
        rw [HM.out]
        go_wp2_with fail
        refine (turn_any 0 _ _ hL64 (by omega) (by omega)).mono ?_
        rintro e w1 ⟨rfl, rfl⟩
        rw [HT.out.2.2]
        go_wp2_with fail
        refine (up_any _ _ _ (by omega) (by omega) (by omega) (by omega)).mono ?_
        rintro e w1 ⟨rfl, rfl⟩
        rw [HX.out]
        go_wp2_with fail
        refine (alive01 _).mono ?_
        rintro e w1 ⟨rfl, f1⟩
        go_wp2_with fail
        go_ret
        exact ⟨rfl, f1⟩
      by_cases ht : t < 1
      · have hx : upN u t = 0 := by unfold upN; rw [if_pos (.inr ht)]
        have hu' : 1 ≤ u := by omega
        have HX := Lib.hid hx
        clear hx hu
        go_enter Try.func15, Try.ntmps15
        go_wp2_with fail
        refine (turn_any n _ _ hn (by omega) (by omega)).mono ?_
        rintro e w1 ⟨rfl, rfl⟩
        rw [HT.out.1]
        go_wp2_with fail
        refine (mask_any _ _).mono ?_
        rintro e w1 ⟨rfl, rfl⟩
        rw [HM.out]
        go_wp2_with fail
        refine (turn_any T _ _ hT64 (by omega) (by omega)).mono ?_
        rintro e w1 ⟨rfl, rfl⟩
        rw [HT.out.2.1]
        go_wp2_with fail
        refine (mask_any _ _).mono ?_
        rintro e w1 ⟨rfl, rfl⟩
        rw [HM.out]
        go_wp2_with fail
        refine (turn_any 0 _ _ hL64 (by omega) (by omega)).mono ?_
        rintro e w1 ⟨rfl, rfl⟩
        rw [HT.out.2.2]
        go_wp2_with fail
        refine (up_any _ _ _ (by omega) (by omega) (by omega) (by omega)).mono ?_
        rintro e w1 ⟨rfl, rfl⟩
        rw [HX.out]
        go_wp2_with fail
        refine (alive01 _).mono ?_
        rintro e w1 ⟨rfl, f1⟩
        go_wp2_with fail
        go_ret
        exact ⟨rfl, f1⟩
      · have hx := up_mod u t (by omega) (by omega) (by omega)
        have hu' : 1 ≤ u := by omega
        have ht' : 1 ≤ t := by omega
        obtain ⟨x, hxx⟩ : ∃ x, upN u t = x := ⟨_, rfl⟩
        rw [hxx] at hx
        obtain ⟨x1, x2, x3⟩ := hx
        have HX := Lib.hid hxx
        have x4 : 1 ≤ x := by omega
        have x5 : x ≤ 4294967296 := by omega
        clear hxx hu ht
        go_enter Try.func15, Try.ntmps15
        go_wp2_with fail
        refine (turn_any n _ _ hn (by omega) (by omega)).mono ?_
        rintro e w1 ⟨rfl, rfl⟩
        rw [HT.out.1]
        go_wp2_with fail
        refine (mask_any _ _).mono ?_
        rintro e w1 ⟨rfl, rfl⟩
        rw [HM.out]
        go_wp2_with fail
        refine (turn_any T _ _ hT64 (by omega) (by omega)).mono ?_
        rintro e w1 ⟨rfl, rfl⟩
        rw [HT.out.2.1]
        go_wp2_with fail
        refine (mask_any _ _).mono ?_
        rintro e w1 ⟨rfl, rfl⟩
        rw [HM.out]
        go_wp2_with fail
        refine (turn_any 0 _ _ hL64 (by omega) (by omega)).mono ?_
        rintro e w1 ⟨rfl, rfl⟩
        rw [HT.out.2.2]
        go_wp2_with fail
        refine (up_any _ _ _ (by omega) (by omega) (by omega) (by omega)).mono ?_
        rintro e w1 ⟨rfl, rfl⟩
        rw [HX.out]
        go_wp2_with fail
        refine (alive01 _).mono ?_
        rintro e w1 ⟨rfl, f1⟩
        go_wp2_with fail
        go_ret
        exact ⟨rfl, f1⟩
    have hbz : bl L ≠ 0 := fun e => by have := (bl_le L 0).1 (by omega); omega
    obtain ⟨g, hg⟩ : ∃ g, bl L = g + 1 := ⟨bl L - 1, by omega⟩
    have hbk : bl L ≤ k := (bl_le L k).2 hL1
    have hgk : g < k := by omega
    have hLp : 0 < L := by omega
    obtain ⟨d, hd⟩ : ∃ d, k - 1 - g = d := ⟨_, rfl⟩
    have hd' : (k : Int) - 1 - (g : Int) = (d : Int) := by omega
    have hd64 : (d : Int) ≤ 63 := by omega
    obtain ⟨t1, t2⟩ := turn_top n k g (by rw [hLe]; exact hg) hgk
    rw [hTe, hd] at t1 t2
    have hLs : (L : Int) / 2 ^ g = 1 := by
      have e : ((2:Int) ^ g) = ((2 ^ g : Nat) : Int) := by simp
      rw [e, ← Int.natCast_ediv, bl_top L g hg]; rfl
    obtain ⟨E, hE⟩ : ∃ E, T / 2 ^ d = E := ⟨_, rfl⟩
    rw [hE] at t1
    have hE64 : E < 2 ^ 64 := by rw [← hE]; exact Nat.lt_of_le_of_lt (Nat.div_le_self _ _) hT64
    have hTs : (T : Int) / 2 ^ d = (E : Int) := by
      have e : ((2:Int) ^ d) = ((2 ^ d : Nat) : Int) := by simp
      rw [e, ← Int.natCast_ediv, hE]
    have hE1 : bits .and .u64 (E : Int) 1 = 1 := by
      have := and_mask E 1 hE64 (by decide)
      rw [show E % 2 ^ 1 = 1 from t1] at this
      exact this
    obtain ⟨M2, hM2⟩ : ∃ M, maskN (d : Int) = M := ⟨_, rfl⟩
    have hM2d : M2 = 2 ^ d - 1 := by rw [← hM2]; unfold maskN; rw [show min (d : Int).toNat 64 = d by omega]
    have hT0 : bits .and .u64 (T : Int) (M2 : Int) = 0 := by rw [hM2d, and_mask T d hT64 (by omega), t2]; rfl
    have hlg : (bl L : Int) - 1 = (g : Int) := by omega
    have HG := Lib.hid (And.intro hlg hM2)
    clear hlg hM2 hM2d t1 t2 hE hE64 hd hbz hg hbk hTe hLe hz hL1
    by_cases hu : u < 1
    · have hx : upN u t = 0 := by unfold upN; rw [if_pos (.inl hu)]
      have HX := Lib.hid hx
      clear hx
      go_enter Try.func15, Try.ntmps15
      go_wp2_with fail
      refine (turn_any n _ _ hn (by omega) (by omega)).mono ?_
      rintro e w1 ⟨rfl, rfl⟩
      rw [HT.out.1]
      go_wp2_with fail
      refine (mask_any _ _).mono ?_
      rintro e w1 ⟨rfl, rfl⟩
      rw [HM.out]
      go_wp2_with fail
      refine (turn_any T _ _ hT64 (by omega) (by omega)).mono ?_
      rintro e w1 ⟨rfl, rfl⟩
      rw [HT.out.2.1]
      go_wp2_with fail
      refine (mask_any _ _).mono ?_
      rintro e w1 ⟨rfl, rfl⟩
      rw [HM.out]
      go_wp2_with fail
      refine (turn_any L _ _ hL64 (by omega) (by omega)).mono ?_
      rintro e w1 ⟨rfl, rfl⟩
      rw [HT.out.2.2]
      go_wp2_with fail
      refine (log_any L _ hL64).mono ?_
      rintro e w1 ⟨rfl, rfl⟩
      rw [HG.out.1]
      go_wp2_with fail
      refine (mask_any _ _).mono ?_
      rintro e w1 ⟨rfl, rfl⟩
      rw [HG.out.2]
      go_wp2_with fail
      refine (up_any _ _ _ (by omega) (by omega) (by omega) (by omega)).mono ?_
      rintro e w1 ⟨rfl, rfl⟩
      rw [HX.out]
      go_wp2_with fail
      refine (alive01 _).mono ?_
      rintro e w1 ⟨rfl, f1⟩
      go_wp2_with fail
      go_ret
      exact ⟨rfl, f1⟩
    by_cases ht : t < 1
    · have hx : upN u t = 0 := by unfold upN; rw [if_pos (.inr ht)]
      have hu' : 1 ≤ u := by omega
      have HX := Lib.hid hx
      clear hx hu
      go_enter Try.func15, Try.ntmps15
      go_wp2_with fail
      refine (turn_any n _ _ hn (by omega) (by omega)).mono ?_
      rintro e w1 ⟨rfl, rfl⟩
      rw [HT.out.1]
      go_wp2_with fail
      refine (mask_any _ _).mono ?_
      rintro e w1 ⟨rfl, rfl⟩
      rw [HM.out]
      go_wp2_with fail
      refine (turn_any T _ _ hT64 (by omega) (by omega)).mono ?_
      rintro e w1 ⟨rfl, rfl⟩
      rw [HT.out.2.1]
      go_wp2_with fail
      refine (mask_any _ _).mono ?_
      rintro e w1 ⟨rfl, rfl⟩
      rw [HM.out]
      go_wp2_with fail
      refine (turn_any L _ _ hL64 (by omega) (by omega)).mono ?_
      rintro e w1 ⟨rfl, rfl⟩
      rw [HT.out.2.2]
      go_wp2_with fail
      refine (log_any L _ hL64).mono ?_
      rintro e w1 ⟨rfl, rfl⟩
      rw [HG.out.1]
      go_wp2_with fail
      refine (mask_any _ _).mono ?_
      rintro e w1 ⟨rfl, rfl⟩
      rw [HG.out.2]
      go_wp2_with fail
      refine (up_any _ _ _ (by omega) (by omega) (by omega) (by omega)).mono ?_
      rintro e w1 ⟨rfl, rfl⟩
      rw [HX.out]
      go_wp2_with fail
      refine (alive01 _).mono ?_
      rintro e w1 ⟨rfl, f1⟩
      go_wp2_with fail
      go_ret
      exact ⟨rfl, f1⟩
    · have hx := up_mod u t (by omega) (by omega) (by omega)
      have hu' : 1 ≤ u := by omega
      have ht' : 1 ≤ t := by omega
      obtain ⟨x, hxx⟩ : ∃ x, upN u t = x := ⟨_, rfl⟩
      rw [hxx] at hx
      obtain ⟨x1, x2, x3⟩ := hx
      have HX := Lib.hid hxx
      have x4 : 1 ≤ x := by omega
      have x5 : x ≤ 4294967296 := by omega
      clear hxx hu ht
      go_enter Try.func15, Try.ntmps15
      go_wp2_with fail
      refine (turn_any n _ _ hn (by omega) (by omega)).mono ?_
      rintro e w1 ⟨rfl, rfl⟩
      rw [HT.out.1]
      go_wp2_with fail
      refine (mask_any _ _).mono ?_
      rintro e w1 ⟨rfl, rfl⟩
      rw [HM.out]
      go_wp2_with fail
      refine (turn_any T _ _ hT64 (by omega) (by omega)).mono ?_
      rintro e w1 ⟨rfl, rfl⟩
      rw [HT.out.2.1]
      go_wp2_with fail
      refine (mask_any _ _).mono ?_
      rintro e w1 ⟨rfl, rfl⟩
      rw [HM.out]
      go_wp2_with fail
      refine (turn_any L _ _ hL64 (by omega) (by omega)).mono ?_
      rintro e w1 ⟨rfl, rfl⟩
      rw [HT.out.2.2]
      go_wp2_with fail
      refine (log_any L _ hL64).mono ?_
      rintro e w1 ⟨rfl, rfl⟩
      rw [HG.out.1]
      go_wp2_with fail
      refine (mask_any _ _).mono ?_
      rintro e w1 ⟨rfl, rfl⟩
      rw [HG.out.2]
      go_wp2_with fail
      refine (up_any _ _ _ (by omega) (by omega) (by omega) (by omega)).mono ?_
      rintro e w1 ⟨rfl, rfl⟩
      rw [HX.out]
      go_wp2_with fail
      refine (alive01 _).mono ?_
      rintro e w1 ⟨rfl, f1⟩
      go_wp2_with fail
      go_ret
      exact ⟨rfl, f1⟩
  exact key.mono fun e w' ⟨h, f⟩ => ⟨h, f.below⟩
end Go.Proofs.Ytlognooioemenaa
