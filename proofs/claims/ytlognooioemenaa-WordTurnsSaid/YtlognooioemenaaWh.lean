/- The walk of WordOrder. -/
import Derived.Test.YtlognooioemenaaWf
namespace Go.Proofs.Ytlognooioemenaa
open Go.RowKit
set_option linter.unusedVariables false
set_option linter.unusedSimpArgs false

theorem mask_or : ∀ k : Nat, k < 64 → bits .or .u64 (IntKind.u64.wrap ((maskN (k : Int) : Int) * 2)) 1 = (maskN ((k : Int) + 1) : Int) := by decide +kernel
theorem mask_sub : ∀ k : Nat, k < 64 → bits .andNot .u64 (maskN (k : Int) : Int) (maskN ((k : Int) + 1) : Int) = 0 := by decide +kernel
theorem and_63 : ∀ c : Nat, c < 64 → bits .and .i64 (c : Int) 63 = (c : Int) := by decide +kernel
theorem bl_mono (n m : Nat) (h : n ≤ m) : bl n ≤ bl m := (bl_le n (bl m)).2 (Nat.lt_of_le_of_lt h ((bl_le m (bl m)).1 (Nat.le_refl _)))
theorem bl_top (n c : Nat) (h : bl n = c + 1) : n / 2 ^ c = 1 := by
  have h1 : n < 2 ^ (c + 1) := (bl_le _ _).1 (by omega)
  have h2 : ¬ n < 2 ^ c := fun e => by have := (bl_le _ _).2 e; omega
  rw [Nat.pow_succ] at h1
  have h3 := Nat.div_lt_of_lt_mul (m := n) (n := 2 ^ c) (k := 2) h1
  have h4 := Nat.div_pos (a := n) (b := 2 ^ c) (by omega) (Nat.pow_pos (by decide))
  omega
theorem up_is (n t q : Int) (hn : 1 ≤ n) (ht : 1 ≤ t) (h1 : n ≤ t * q) (h2 : t * q < n + t) (h3 : t * q ≤ 4611686018427387904) : upN n t = t * q := by
  have e : (n + t - 1) / t = q := by
    rw [show n + t - 1 = (n + t - 1 - t * q) + t * q by omega, Int.add_mul_ediv_left _ _ (by omega), Int.ediv_eq_zero_of_lt (by omega) (by omega)]
    omega
  unfold upN
  rw [if_neg (by omega), e, Int.mul_comm q t, if_neg (by omega)]
theorem up_ex (n t : Int) (hn : 1 ≤ n) (ht : 1 ≤ t) (hb : n + t ≤ 4611686018427387904) : ∃ q, upN n t = t * q ∧ n ≤ t * q ∧ t * q < n + t := by
  have h := up_le n t hn ht
  rw [Int.mul_comm] at h
  exact ⟨(n + t - 1) / t, up_is n t _ hn ht (by omega) (by omega) (by omega), by omega, by omega⟩
/-- Multiples of multiples. -/
theorem up_up (u a b : Int) (hu : 1 ≤ u) (ha : 1 ≤ a) (hb : 1 ≤ b) (hs : u + a * b ≤ 4000000000000000000) (hs2 : u + a ≤ 4000000000000000000) :
    upN (upN u a) a = upN u a ∧ upN u a ≤ upN u (a * b) ∧ upN (upN u a) (a * b) = upN u (a * b) ∧ 1 ≤ upN u a ∧ upN u a < u + a ∧ 1 ≤ upN u (a * b) ∧ upN u (a * b) < u + a * b := by
  have hab : 1 ≤ a * b := by have := Int.mul_le_mul ha hb (by omega) (by omega); omega
  obtain ⟨q, e1, h1, h2⟩ := up_ex u a hu ha (by omega)
  obtain ⟨r, e2, h3, h4⟩ := up_ex u (a * b) hu hab (by omega)
  have hle : a * q ≤ a * b * r := by
    rw [Int.mul_assoc] at h3 h4 ⊢
    have : a * q < a * (b * r + 1) := by rw [Int.mul_add]; omega
    have := Int.lt_of_mul_lt_mul_left this (by omega)
    exact Int.mul_le_mul_of_nonneg_left (by omega) (by omega)
  refine ⟨?_, by omega, ?_, by omega, by omega, by omega, by omega⟩
  · rw [e1]; exact up_is _ _ _ (by omega) ha (by omega) (by omega) (by omega)
  · rw [e1, e2]; exact up_is _ _ _ (by omega) hab (by omega) (by omega) (by omega)

set_option maxRecDepth 100000 in
set_option maxHeartbeats 3200000 in
theorem wordOrder_walk (w : World) (n : Int) (w0 : (Lit.int .u64 n).wf = true) (m : Int) (w1 : (Lit.int .u64 m).wf = true) (p : Int) (w2 : (Lit.int .u8 p).wf = true) (u : Int) (w3 : (Lit.int .u16 u).wf = true) (o : Int) (w4 : (Lit.int .u16 o).wf = true) (t : Int) (w5 : (Lit.int .u16 t).wf = true) :
    Calls Try.prog 17 #[.int .u64 n, .int .u64 m, .int .u8 p, .int .u16 u, .int .u16 o, .int .u16 t] w fun e w' => e = .returned (.bool true) ∧ Below w.heap.size w w' := by
  obtain ⟨n0, n1⟩ := bounds_u64 w0
  obtain ⟨m0, m1⟩ := bounds_u64 w1
  obtain ⟨p0, p1⟩ := bounds_u8 w2
  obtain ⟨u0, u1⟩ := bounds_u16 w3
  obtain ⟨o0, o1⟩ := bounds_u16 w4
  obtain ⟨t0, t1⟩ := bounds_u16 w5
  obtain ⟨n, rfl⟩ := Int.eq_ofNat_of_zero_le n0
  obtain ⟨m, rfl⟩ := Int.eq_ofNat_of_zero_le m0
  have hn : n < 2 ^ 64 := by omega
  have hm : m < 2 ^ 64 := by omega
  obtain ⟨k, hk⟩ : ∃ k : Nat, p % 64 = k := ⟨(p % 64).toNat, by omega⟩
  have hk64 : k < 64 := by omega
  have hk' : (k : Int) ≤ 63 := by omega
  have hor := mask_or k hk64
  have hsub := mask_sub k hk64
  obtain ⟨M0, hM0⟩ : ∃ M, maskN (k : Int) = M := ⟨_, rfl⟩
  obtain ⟨M1, hM1⟩ : ∃ M, maskN ((k : Int) + 1) = M := ⟨_, rfl⟩
  rw [hM0, hM1] at hor hsub
  have HM := Lib.hid (And.intro hM0 hM1)
  -- the logs
  have hmono := bl_mono n m
  obtain ⟨ln, hln⟩ : ∃ ln : Int, (bl n : Int) - 1 = ln := ⟨_, rfl⟩
  obtain ⟨lm, hlm⟩ : ∃ lm : Int, (bl m : Int) - 1 = lm := ⟨_, rfl⟩
  have hnm : n ≤ m → ln ≤ lm := fun h => by have := hmono h; omega
  have hb64 : bl n ≤ 64 := (bl_le n 64).2 hn
  have HL := Lib.hid (And.intro hln hlm)
  -- the multiples
  have hab1 : 1 ≤ (1 + o) * (1 + t) := by have := Int.mul_le_mul (show 1 ≤ 1 + o by omega) (show 1 ≤ 1 + t by omega) (by omega) (by omega); omega
  have hab2 : (1 + o) * (1 + t) ≤ 65536 * 65536 := Int.mul_le_mul (by omega) (by omega) (by omega) (by omega)
  have hup := up_up (1 + u) (1 + o) (1 + t) (by omega) (by omega) (by omega) (by omega) (by omega)
  obtain ⟨ab, hab⟩ : ∃ ab, (1 + o) * (1 + t) = ab := ⟨_, rfl⟩
  rw [hab] at hab1 hab2 hup
  obtain ⟨x, hx⟩ : ∃ x, upN (1 + u) (1 + o) = x := ⟨_, rfl⟩
  obtain ⟨y, hy⟩ : ∃ x, upN (1 + u) ab = x := ⟨_, rfl⟩
  rw [hx, hy] at hup
  obtain ⟨h1, h2, h3, h4, h5, h6, h7⟩ := hup
  have HU := Lib.hid (And.intro hx (And.intro hy (And.intro h1 h3)))
  have hab3 : ab ≤ 4294967296 := by omega
  clear hM0 hM1 hmono hx hy h1 h3 w0 w1 w2 w3 w4 w5 n0 m0 hab2 hk64
  have key : Calls Try.prog 17 #[.int .u64 n, .int .u64 m, .int .u8 p, .int .u16 u, .int .u16 o, .int .u16 t] w fun e w' => e = .returned (.bool true) ∧ Fr [] w w' := by
    by_cases hz : n = 0
    · subst hz
      have hl : ln = -1 := by rw [← hln]; rfl
      subst hl
      have hlm0 : -1 ≤ lm := by omega
      clear hln hlm hnm hb64
      go_enter Try.func17, Try.ntmps17
      go_wp2_with fail
      refine (mask_any _ _).mono ?_
      rintro e w1 ⟨rfl, rfl⟩
      rw [HM.out.2]
      go_wp2_with fail
      refine (mask_any _ _).mono ?_
      rintro e w1 ⟨rfl, rfl⟩
      rw [HM.out.1]
      go_wp2_with fail
      refine (mask_any _ _).mono ?_
      rintro e w1 ⟨rfl, rfl⟩
      rw [HM.out.1]
      go_wp2_with fail
      refine (mask_any _ _).mono ?_
      rintro e w1 ⟨rfl, rfl⟩
      rw [HM.out.2]
      go_wp2_with fail
      refine (log_any 0 _ (by decide)).mono ?_
      rintro e w1 ⟨rfl, rfl⟩
      rw [HL.out.1]
      go_wp2_with fail
      refine (log_any m _ hm).mono ?_
      rintro e w1 ⟨rfl, rfl⟩
      rw [HL.out.2]
      go_wp2_with fail
      refine (up_any _ _ _ (by omega) (by omega) (by omega) (by omega)).mono ?_
      rintro e w1 ⟨rfl, rfl⟩
      rw [HU.out.1]
      go_wp2_with fail
      refine (up_any _ _ _ (by omega) (by omega) (by omega) (by omega)).mono ?_
      rintro e w1 ⟨rfl, rfl⟩
      rw [HU.out.2.2.1]
      go_wp2_with fail
      refine (up_any _ _ _ (by omega) (by omega) (by omega) (by omega)).mono ?_
      rintro e w1 ⟨rfl, rfl⟩
      rw [HU.out.2.1]
      go_wp2_with fail
      refine (up_any _ _ _ (by omega) (by omega) (by omega) (by omega)).mono ?_
      rintro e w1 ⟨rfl, rfl⟩
      rw [HU.out.1]
      go_wp2_with fail
      refine (up_any _ _ _ (by omega) (by omega) (by omega) (by omega)).mono ?_
      rintro e w1 ⟨rfl, rfl⟩
      rw [HU.out.2.2.2]
      go_wp2_with fail
      refine (up_any _ _ _ (by omega) (by omega) (by omega) (by omega)).mono ?_
      rintro e w1 ⟨rfl, rfl⟩
      rw [HU.out.2.1]
      go_wp2_with fail
      refine (alive01 _).mono ?_
      rintro e w1 ⟨rfl, f1⟩
      go_wp2_with fail
      go_ret
      exact ⟨rfl, f1⟩
    have hnz : 0 < n := by omega
    have hbz : bl n ≠ 0 := fun e => by have := (bl_le n 0).1 (by omega); omega
    obtain ⟨c, hc⟩ : ∃ c, bl n = c + 1 := ⟨bl n - 1, by omega⟩
    have hlc : ln = (c : Int) := by omega
    subst hlc
    have hc64 : c < 64 := by omega
    have hc64' : (c : Int) ≤ 63 := by omega
    have h63 := and_63 c hc64
    have hsh : (n : Int) / 2 ^ c = 1 := by
      have e : ((2:Int) ^ c) = ((2 ^ c : Nat) : Int) := by simp
      rw [e, ← Int.natCast_ediv, bl_top n c hc]; rfl
    by_cases hle : n ≤ m
    · have hcm : (c : Int) ≤ lm := hnm hle
      clear hln hlm hnm hb64 hc hbz hz
      go_enter Try.func17, Try.ntmps17
      go_wp2_with fail
      refine (mask_any _ _).mono ?_
      rintro e w1 ⟨rfl, rfl⟩
      rw [HM.out.2]
      go_wp2_with fail
      refine (mask_any _ _).mono ?_
      rintro e w1 ⟨rfl, rfl⟩
      rw [HM.out.1]
      go_wp2_with fail
      refine (mask_any _ _).mono ?_
      rintro e w1 ⟨rfl, rfl⟩
      rw [HM.out.1]
      go_wp2_with fail
      refine (mask_any _ _).mono ?_
      rintro e w1 ⟨rfl, rfl⟩
      rw [HM.out.2]
      go_wp2_with fail
      refine (log_any n _ hn).mono ?_
      rintro e w1 ⟨rfl, rfl⟩
      rw [HL.out.1]
      go_wp2_with fail
      refine (log_any m _ hm).mono ?_
      rintro e w1 ⟨rfl, rfl⟩
      rw [HL.out.2]
      go_wp2_with fail
      refine (log_any n _ hn).mono ?_
      rintro e w1 ⟨rfl, rfl⟩
      rw [HL.out.1]
      go_wp2_with fail
      refine (log_any n _ hn).mono ?_
      rintro e w1 ⟨rfl, rfl⟩
      rw [HL.out.1]
      go_wp2_with fail
      refine (up_any _ _ _ (by omega) (by omega) (by omega) (by omega)).mono ?_
      rintro e w1 ⟨rfl, rfl⟩
      rw [HU.out.1]
      go_wp2_with fail
      refine (up_any _ _ _ (by omega) (by omega) (by omega) (by omega)).mono ?_
      rintro e w1 ⟨rfl, rfl⟩
      rw [HU.out.2.2.1]
      go_wp2_with fail
      refine (up_any _ _ _ (by omega) (by omega) (by omega) (by omega)).mono ?_
      rintro e w1 ⟨rfl, rfl⟩
      rw [HU.out.2.1]
      go_wp2_with fail
      refine (up_any _ _ _ (by omega) (by omega) (by omega) (by omega)).mono ?_
      rintro e w1 ⟨rfl, rfl⟩
      rw [HU.out.1]
      go_wp2_with fail
      refine (up_any _ _ _ (by omega) (by omega) (by omega) (by omega)).mono ?_
      rintro e w1 ⟨rfl, rfl⟩
      rw [HU.out.2.2.2]
      go_wp2_with fail
      refine (up_any _ _ _ (by omega) (by omega) (by omega) (by omega)).mono ?_
      rintro e w1 ⟨rfl, rfl⟩
      rw [HU.out.2.1]
      go_wp2_with fail
      refine (alive01 _).mono ?_
      rintro e w1 ⟨rfl, f1⟩
      go_wp2_with fail
      go_ret
      exact ⟨rfl, f1⟩
    · have hle' : m < n := by omega
      clear hln hlm hnm hb64 hc hbz hz hle
      go_enter Try.func17, Try.ntmps17
      go_wp2_with fail
      refine (mask_any _ _).mono ?_
      rintro e w1 ⟨rfl, rfl⟩
      rw [HM.out.2]
      go_wp2_with fail
      refine (mask_any _ _).mono ?_
      rintro e w1 ⟨rfl, rfl⟩
      rw [HM.out.1]
      go_wp2_with fail
      refine (mask_any _ _).mono ?_
      rintro e w1 ⟨rfl, rfl⟩
      rw [HM.out.1]
      go_wp2_with fail
      refine (mask_any _ _).mono ?_
      rintro e w1 ⟨rfl, rfl⟩
      rw [HM.out.2]
      go_wp2_with fail
      refine (log_any n _ hn).mono ?_
      rintro e w1 ⟨rfl, rfl⟩
      rw [HL.out.1]
      go_wp2_with fail
      refine (log_any n _ hn).mono ?_
      rintro e w1 ⟨rfl, rfl⟩
      rw [HL.out.1]
      go_wp2_with fail
      refine (up_any _ _ _ (by omega) (by omega) (by omega) (by omega)).mono ?_
      rintro e w1 ⟨rfl, rfl⟩
      rw [HU.out.1]
      go_wp2_with fail
      refine (up_any _ _ _ (by omega) (by omega) (by omega) (by omega)).mono ?_
      rintro e w1 ⟨rfl, rfl⟩
      rw [HU.out.2.2.1]
      go_wp2_with fail
      refine (up_any _ _ _ (by omega) (by omega) (by omega) (by omega)).mono ?_
      rintro e w1 ⟨rfl, rfl⟩
      rw [HU.out.2.1]
      go_wp2_with fail
      refine (up_any _ _ _ (by omega) (by omega) (by omega) (by omega)).mono ?_
      rintro e w1 ⟨rfl, rfl⟩
      rw [HU.out.1]
      go_wp2_with fail
      refine (up_any _ _ _ (by omega) (by omega) (by omega) (by omega)).mono ?_
      rintro e w1 ⟨rfl, rfl⟩
      rw [HU.out.2.2.2]
      go_wp2_with fail
      refine (up_any _ _ _ (by omega) (by omega) (by omega) (by omega)).mono ?_
      rintro e w1 ⟨rfl, rfl⟩
      rw [HU.out.2.1]
      go_wp2_with fail
      refine (alive01 _).mono ?_
      rintro e w1 ⟨rfl, f1⟩
      go_wp2_with fail
      go_ret
      exact ⟨rfl, f1⟩
  exact key.mono fun e w' ⟨h, f⟩ => ⟨h, f.below⟩
end Go.Proofs.Ytlognooioemenaa
