/- The walk of WordBack. -/
import Derived.Test.YtlognooioemenaaWg
namespace Go.Proofs.Ytlognooioemenaa
open Go.RowKit
set_option linter.unusedVariables false
set_option linter.unusedSimpArgs false

theorem leb_inj (n m k : Nat) (hn : n < 2 ^ (8 * k)) (hm : m < 2 ^ (8 * k)) (h : leb n k = leb m k) : n = m := by
  have := congrArg num h
  rw [num_leb, num_leb, pow256, Nat.mod_eq_of_lt hn, Nat.mod_eq_of_lt hm] at this
  exact this
theorem num_add (a b : ByteArray) : num (a ++ b) = num a + 2 ^ (8 * a.size) * num b := by
  unfold num
  rw [ByteArray.data_append, Array.toList_append, numL_append, pow256]
  rfl
/-- What was put is got, whatever stands around it. -/
theorem get_put (x y : ByteArray) (n k : Nat) (h : n < 2 ^ (8 * k)) : num (x ++ leb n k ++ y) / 2 ^ (8 * x.size) % 2 ^ (8 * k) = n := by
  have hx := num_lt x
  rw [ByteArray.append_assoc, num_add, Nat.add_mul_div_left _ _ (Nat.pow_pos (by decide)), Nat.div_eq_of_lt hx, Nat.zero_add, num_add, num_leb, size_leb, pow256, Nat.mod_eq_of_lt h, Nat.add_mul_mod_self_left, Nat.mod_eq_of_lt h]
theorem leb_take (s : ByteArray) (k : Nat) (h : k ≤ s.size) : leb (num s % 2 ^ (8 * k)) k = s.extract 0 k := by
  apply ByteArray.ext
  unfold leb
  rw [← pow256, lebL_mod, ByteArray.data_extract]
  apply Array.ext'
  have e : s.data.toList = s.data.toList.take k ++ s.data.toList.drop k := (List.take_append_drop _ _).symm
  have hl : (s.data.toList.take k).length = k := by simp; omega
  have := lebL_numL (s.data.toList.take k)
  rw [hl, numL_take, lebL_mod] at this
  show lebL (numL s.data.toList) k = _
  rw [this]
  simp

set_option maxRecDepth 100000 in
set_option maxHeartbeats 3200000 in
theorem wordBack_walk (w : World) (n : Int) (w0 : (Lit.int .u64 n).wf = true) (m : Int) (w1 : (Lit.int .u64 m).wf = true) (z : Int) (w2 : (Lit.int .u8 z).wf = true) (a : ByteArray) (w3 : a.size ≤ maxLen) (b : ByteArray) (w4 : b.size ≤ maxLen) :
    Calls Try.prog 14 #[.int .u64 n, .int .u64 m, .int .u8 z, .string a, .string b] w fun e w' => e = .returned (.bool true) ∧ Below w.heap.size w w' := by
  by_cases hbig : (4096 : Int) < (a.size : Int)
  · go_enter Try.func14, Try.ntmps14
    go_wp2_with fail
    refine (alive01 _).mono ?_
    rintro e w1 ⟨rfl, f1⟩
    go_wp2_with fail
    go_ret
    exact ⟨rfl, f1.below⟩
  by_cases hbig2 : (4096 : Int) < (b.size : Int)
  · have i1 : (a.size : Int) ≤ 4096 := by omega
    clear hbig
    go_enter Try.func14, Try.ntmps14
    go_wp2_with fail
    refine (alive01 _).mono ?_
    rintro e w1 ⟨rfl, f1⟩
    go_wp2_with fail
    go_ret
    exact ⟨rfl, f1.below⟩
  obtain ⟨n0, n1⟩ := bounds_u64 w0
  obtain ⟨m0, m1⟩ := bounds_u64 w1
  obtain ⟨z0, z1⟩ := bounds_u8 w2
  obtain ⟨n, rfl⟩ := Int.eq_ofNat_of_zero_le n0
  obtain ⟨m, rfl⟩ := Int.eq_ofNat_of_zero_le m0
  have hn : n < 2 ^ 64 := by omega
  have hm : m < 2 ^ 64 := by omega
  have ia : (a.size : Int) ≤ 4096 := by omega
  have ib : (b.size : Int) ≤ 4096 := by omega
  obtain ⟨j, hj⟩ : ∃ j : Nat, z % 8 = j := ⟨(z % 8).toNat, by omega⟩
  have j7 : (j : Int) ≤ 7 := by omega
  obtain ⟨k, hk⟩ : ∃ k : Nat, 1 + j = k := ⟨_, rfl⟩
  have hkj : ((k : Nat) : Int) = 1 + (j : Int) := by omega
  obtain ⟨M, hM⟩ : ∃ M, maskN (8 * (1 + (j : Int))) = M := ⟨_, rfl⟩
  have hMk : M = 2 ^ (8 * k) - 1 := by rw [← hM, show (8 * (1 + (j : Int))) = ((8 * k : Nat) : Int) by omega, maskN_nat _ (by omega)]
  obtain ⟨X, hX⟩ : ∃ X, n % 2 ^ (8 * k) = X := ⟨_, rfl⟩
  obtain ⟨Y, hY⟩ : ∃ X, m % 2 ^ (8 * k) = X := ⟨_, rfl⟩
  have hX1 : X < 2 ^ (8 * k) := by rw [← hX]; exact Nat.mod_lt _ (Nat.pow_pos (by decide))
  have hY1 : Y < 2 ^ (8 * k) := by rw [← hY]; exact Nat.mod_lt _ (Nat.pow_pos (by decide))
  have hX2 : X < 2 ^ 64 := Nat.lt_of_lt_of_le hX1 (Nat.pow_le_pow_right (by decide) (by omega))
  have hY2 : Y < 2 ^ 64 := Nat.lt_of_lt_of_le hY1 (Nat.pow_le_pow_right (by decide) (by omega))
  have hand1 : bits .and .u64 (n : Int) (M : Int) = (X : Int) := by rw [hMk, and_mask n _ hn (by omega), hX]
  have hand2 : bits .and .u64 (m : Int) (M : Int) = (Y : Int) := by rw [hMk, and_mask m _ hm (by omega), hY]
  obtain ⟨P, hP⟩ : ∃ P, leb X k = P := ⟨_, rfl⟩
  obtain ⟨Q, hQ⟩ : ∃ P, leb Y k = P := ⟨_, rfl⟩
  have hPs : P.size = k := by rw [← hP, size_leb]
  have r1 : putS X (1 + (j : Int)) = P ∧ putB X (1 + (j : Int)) = true := by rw [← hkj, ← hP]; exact putS_leb X k (by omega) (by omega) hX1
  have r2 : putS Y (1 + (j : Int)) = Q ∧ putB Y (1 + (j : Int)) = true := by rw [← hkj, ← hQ]; exact putS_leb Y k (by omega) (by omega) hY1
  have hg : getB (a ++ P ++ b) (a.size : Int) (1 + (j : Int)) = true := by
    unfold getB; apply decide_eq_true
    simp only [ByteArray.size_append, hPs]; omega
  have r3 : getN (a ++ P ++ b) (a.size : Int) (1 + (j : Int)) = X ∧ getB (a ++ P ++ b) (a.size : Int) (1 + (j : Int)) = true := by
    refine ⟨?_, hg⟩
    unfold getN
    rw [hg, ← hP, ← hkj]
    simp only [if_true, Int.toNat_natCast]
    exact get_put a b X k hX1
  have eS : (a ++ P ++ b).size ≤ 1000000000 := by simp only [ByteArray.size_append, hPs]; omega
  have hne : ((P.size : Int) != 1 + (j : Int)) = false := by rw [hPs, hkj]; simp
  have hPi : (P.size : Int) ≤ 8 := by omega
  obtain ⟨c, hc1, hc2⟩ : ∃ c, (P.toList == Q.toList) = c ∧ ((X : Int) == (Y : Int)) = c := by
    by_cases h : X = Y
    · refine ⟨true, ?_, by rw [h]; simp⟩
      rw [← hP, ← hQ, h]; simp
    · refine ⟨false, ?_, by rw [beq_eq_false_iff_ne]; omega⟩
      rw [beq_eq_false_iff_ne, ByteArray.toList_eq, ByteArray.toList_eq]
      intro e
      exact h (leb_inj X Y k hX1 hY1 (by rw [hP, hQ]; exact ByteArray.ext (Array.ext' e)))
  have R1 := Lib.hid r1
  have R2 := Lib.hid r2
  have R3 := Lib.hid r3
  have ES := Lib.hid eS
  have HM := Lib.hid hM
  have key : Calls Try.prog 14 #[.int .u64 n, .int .u64 m, .int .u8 z, .string a, .string b] w fun e w' => e = .returned (.bool true) ∧ Fr [] w w' := by
    clear r1 r2 r3 hM hX hY hX1 hY1 w0 w1 w2 n0 m0 hMk hg eS hPs hbig hbig2 hP hQ
    go_enter Try.func14, Try.ntmps14
    go_wp2_with fail
    refine (mask_any _ _).mono ?_
    rintro e w1 ⟨rfl, rfl⟩
    rw [HM.out]
    go_wp2_with fail
    refine (mask_any _ _).mono ?_
    rintro e w1 ⟨rfl, rfl⟩
    rw [HM.out]
    go_wp2_with fail
    refine (put_any X _ _ hX2 (by omega) (by omega)).mono ?_
    rintro e w1 ⟨rfl, f1⟩
    rw [R1.out.1, R1.out.2]
    go_wp2_with fail
    refine (put_any Y _ _ hY2 (by omega) (by omega)).mono ?_
    rintro e w2 ⟨rfl, f2⟩
    rw [R2.out.1, R2.out.2]
    go_wp2_with fail
    refine (get_any (a ++ P ++ b) _ _ _ ES.out (by omega) (by omega)).mono ?_
    rintro e w3 ⟨rfl, f3⟩
    rw [R3.out.1, R3.out.2]
    go_wp2_with fail
    by_cases hh : (1 : Int) + j ≤ b.size
    · have e1 : getB b 0 (1 + (j : Int)) = true := by unfold getB; apply decide_eq_true; omega
      obtain ⟨G, hG⟩ : ∃ G, num b % 2 ^ (8 * k) = G := ⟨_, rfl⟩
      have hG1 : G < 2 ^ (8 * k) := by rw [← hG]; exact Nat.mod_lt _ (Nat.pow_pos (by decide))
      have hG2 : G < 2 ^ 64 := Nat.lt_of_lt_of_le hG1 (Nat.pow_le_pow_right (by decide) (by omega))
      have e2 : getN b 0 (1 + (j : Int)) = G := by
        unfold getN
        rw [e1, ← hkj]
        simp [hG]
      have r5 : putS G (1 + (j : Int)) = b.extract 0 k ∧ putB G (1 + (j : Int)) = true := by
        rw [← hkj, ← leb_take b k (by omega), hG]; exact putS_leb G k (by omega) (by omega) hG1
      have E := Lib.hid (And.intro e1 (And.intro e2 r5))
      clear e1 e2 r5 hG hG1
      refine (get_any b _ _ _ (by omega) (by omega) (by omega)).mono ?_
      rintro e w4 ⟨rfl, f4⟩
      rw [E.out.1, E.out.2.1]
      go_wp2_with fail
      refine (put_any G _ _ hG2 (by omega) (by omega)).mono ?_
      rintro e w5 ⟨rfl, f5⟩
      rw [E.out.2.2.1, E.out.2.2.2]
      go_wp2_with fail
      refine (alive01 _).mono ?_
      rintro e w6 ⟨rfl, f6⟩
      go_wp2_with fail
      go_ret
      exact ⟨rfl, (((((f1.trans f2).trans f3).trans f4).trans f5).trans f6)⟩
    · have e1 : getB b 0 (1 + (j : Int)) = false := by unfold getB; apply decide_eq_false; omega
      have E := Lib.hid e1
      clear e1
      refine (get_any b _ _ _ (by omega) (by omega) (by omega)).mono ?_
      rintro e w4 ⟨rfl, f4⟩
      rw [E.out]
      go_wp2_with fail
      refine (alive01 _).mono ?_
      rintro e w6 ⟨rfl, f6⟩
      go_wp2_with fail
      go_ret
      exact ⟨rfl, ((((f1.trans f2).trans f3).trans f4).trans f6)⟩
  exact key.mono fun e w' ⟨h, f⟩ => ⟨h, f.below⟩
end Go.Proofs.Ytlognooioemenaa
