/- The walk of WordParts. -/
import Derived.Test.YtlognooioemenaaWf
namespace Go.Proofs.Ytlognooioemenaa
open Go.RowKit
set_option linter.unusedVariables false
set_option linter.unusedSimpArgs false

theorem maskN_nat (k : Nat) (h : k ≤ 64) : maskN (k : Int) = 2 ^ k - 1 := by unfold maskN; rw [show min (k : Int).toNat 64 = k by omega]
theorem putS_leb (n k : Nat) (h0 : 1 ≤ k) (h1 : k ≤ 8) (h : n < 2 ^ (8 * k)) : putS n (k : Int) = leb n k ∧ putB n (k : Int) = true := by
  have e : putB n (k : Int) = true := by unfold putB; apply decide_eq_true; simp; omega
  exact ⟨by unfold putS; rw [e]; simp, e⟩
theorem leb_parts (n a b : Nat) : leb n (a + b) = leb (n % 2 ^ (8 * a)) a ++ leb (n / 2 ^ (8 * a)) b := by
  apply ByteArray.ext
  rw [ByteArray.data_append]
  unfold leb
  rw [← pow256, lebL_mod, lebL_add]
  simp

set_option maxRecDepth 100000 in
set_option maxHeartbeats 1600000 in
theorem wordParts_walk (w : World) (n : Int) (w0 : (Lit.int .u64 n).wf = true) (p : Int) (w1 : (Lit.int .u8 p).wf = true) (q : Int) (w2 : (Lit.int .u8 q).wf = true) :
    Calls Try.prog 16 #[.int .u64 n, .int .u8 p, .int .u8 q] w fun e w' => e = .returned (.bool true) ∧ Below w.heap.size w w' := by
  obtain ⟨n0, n1⟩ := bounds_u64 w0
  obtain ⟨p0, p1⟩ := bounds_u8 w1
  obtain ⟨q0, q1⟩ := bounds_u8 w2
  obtain ⟨m, rfl⟩ := Int.eq_ofNat_of_zero_le n0
  have hm : m < 2 ^ 64 := by omega
  obtain ⟨i, hi⟩ : ∃ i : Nat, p % 4 = i := ⟨(p % 4).toNat, by omega⟩
  obtain ⟨j, hj⟩ : ∃ j : Nat, q % 4 = j := ⟨(q % 4).toNat, by omega⟩
  have i4 : (i : Int) ≤ 3 := by omega
  have j4 : (j : Int) ≤ 3 := by omega
  -- the numbers
  obtain ⟨a, ha⟩ : ∃ a, 1 + i = a := ⟨_, rfl⟩
  obtain ⟨b, hb⟩ : ∃ b, 1 + j = b := ⟨_, rfl⟩
  obtain ⟨M, hM⟩ : ∃ M, maskN (8 * (1 + (i : Int) + (1 + (j : Int)))) = M := ⟨_, rfl⟩
  obtain ⟨M2, hM2⟩ : ∃ M, maskN (8 * (1 + (i : Int))) = M := ⟨_, rfl⟩
  obtain ⟨x, hx⟩ : ∃ x, m % 2 ^ (8 * (a + b)) = x := ⟨_, rfl⟩
  obtain ⟨y, hy⟩ : ∃ y, x % 2 ^ (8 * a) = y := ⟨_, rfl⟩
  obtain ⟨z, hz⟩ : ∃ z, x / 2 ^ (8 * a) = z := ⟨_, rfl⟩
  have hx1 : x < 2 ^ (8 * (a + b)) := by rw [← hx]; exact Nat.mod_lt _ (Nat.pow_pos (by decide))
  have hx2 : x < 2 ^ 64 := Nat.lt_of_lt_of_le hx1 (Nat.pow_le_pow_right (by decide) (by omega))
  have hy1 : y < 2 ^ (8 * a) := by rw [← hy]; exact Nat.mod_lt _ (Nat.pow_pos (by decide))
  have hy2 : y < 2 ^ 64 := Nat.lt_of_lt_of_le hy1 (Nat.pow_le_pow_right (by decide) (by omega))
  have hz1 : z < 2 ^ (8 * b) := by
    rw [← hz]; apply Nat.div_lt_of_lt_mul; rw [← Nat.pow_add]; rw [show 8 * a + 8 * b = 8 * (a + b) by omega]; exact hx1
  have hz2 : z < 2 ^ 64 := Nat.lt_of_lt_of_le hz1 (Nat.pow_le_pow_right (by decide) (by omega))
  have hand1 : bits .and .u64 (m : Int) (M : Int) = (x : Int) := by
    rw [← hM, show (8 * (1 + (i : Int) + (1 + (j : Int)))) = ((8 * (a + b) : Nat) : Int) by omega, maskN_nat _ (by omega), ← hx]
    exact and_mask m _ hm (by omega)
  have hand2 : bits .and .u64 (x : Int) (M2 : Int) = (y : Int) := by
    rw [← hM2, show (8 * (1 + (i : Int))) = ((8 * a : Nat) : Int) by omega, maskN_nat _ (by omega), ← hy]
    exact and_mask x _ hx2 (by omega)
  have hsh : (x : Int) / 2 ^ (8 * (1 + i)) = (z : Int) := by
    have hc : ((2:Int) ^ (8 * (1 + i))) = ((2 ^ (8 * a) : Nat) : Int) := by rw [← ha]; simp
    rw [hc, ← Int.natCast_ediv, hz]
  obtain ⟨Y, hY⟩ : ∃ Y, leb y a = Y := ⟨_, rfl⟩
  obtain ⟨Z, hZ⟩ : ∃ Z, leb z b = Z := ⟨_, rfl⟩
  have hYs : (Y.size : Int) ≤ 4 := by rw [← hY, size_leb]; omega
  have hZs : (Z.size : Int) ≤ 4 := by rw [← hZ, size_leb]; omega
  have r1 : putS x (1 + (i : Int) + (1 + (j : Int))) = Y ++ Z ∧ putB x (1 + (i : Int) + (1 + (j : Int))) = true := by
    rw [show (1 + (i : Int) + (1 + (j : Int))) = ((a + b : Nat) : Int) by omega]
    have := putS_leb x (a + b) (by omega) (by omega) hx1
    refine ⟨?_, this.2⟩
    rw [this.1, leb_parts, hy, hz, hY, hZ]
  have r2 : putS y (1 + (i : Int)) = Y ∧ putB y (1 + (i : Int)) = true := by
    rw [show (1 + (i : Int)) = ((a : Nat) : Int) by omega, ← hY]
    exact putS_leb y a (by omega) (by omega) hy1
  have r3 : putS z (1 + (j : Int)) = Z ∧ putB z (1 + (j : Int)) = true := by
    rw [show (1 + (j : Int)) = ((b : Nat) : Int) by omega, ← hZ]
    exact putS_leb z b (by omega) (by omega) hz1
  have R1 := Lib.hid r1
  have R2 := Lib.hid r2
  have R3 := Lib.hid r3
  have HM := Lib.hid hM
  have HM2 := Lib.hid hM2
  clear r1 r2 r3 hM hM2 hx hy hz hY hZ ha hb hx1 hy1 hz1 w0 w1 w2 n0
  go_enter Try.func16, Try.ntmps16
  go_wp2_with fail
  refine (mask_any _ _).mono ?_
  rintro e w1 ⟨rfl, rfl⟩
  rw [HM.out]
  go_wp2_with fail
  refine (put_any x _ _ hx2 (by omega) (by omega)).mono ?_
  rintro e w1 ⟨rfl, f1⟩
  rw [R1.out.1, R1.out.2]
  go_wp2_with fail
  refine (mask_any _ _).mono ?_
  rintro e w1 ⟨rfl, rfl⟩
  rw [HM2.out]
  go_wp2_with fail
  refine (put_any y _ _ hy2 (by omega) (by omega)).mono ?_
  rintro e w2 ⟨rfl, f2⟩
  rw [R2.out.1, R2.out.2]
  go_wp2_with fail
  refine (put_any z _ _ hz2 (by omega) (by omega)).mono ?_
  rintro e w3 ⟨rfl, f3⟩
  rw [R3.out.1, R3.out.2]
  go_wp2_with fail
  refine (alive01 _).mono ?_
  rintro e w4 ⟨rfl, f4⟩
  go_wp2_with fail
  go_ret
  exact ⟨rfl, (((f1.trans f2).trans f3).trans f4).below⟩
end Go.Proofs.Ytlognooioemenaa
