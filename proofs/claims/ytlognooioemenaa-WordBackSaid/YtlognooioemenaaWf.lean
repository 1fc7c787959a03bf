/- alive of chapter 01; the walks of WordBytes and WordBits. -/
import Derived.Test.YtlognooioemenaaWe
import Derived.OpenShut
namespace Go.Proofs.Ytlognooioemenaa
open Go.RowKit
set_option linter.unusedVariables false
set_option linter.unusedSimpArgs false

set_option maxRecDepth 100000 in
set_option maxHeartbeats 1600000 in
theorem alive01 (w : World) : Calls Try.prog 43 #[] w fun e w' => e = .returned (.bool true) ∧ Fr [] w w' := by
  have q1 := Lib.hid (show putS 258 2 = ⟨#[2, 1]⟩ ∧ putB 258 2 = true ∧ putB 256 1 = false by decide +kernel)
  have q2 := Lib.hid (show getN ⟨#[120, 2, 1]⟩ 1 2 = 258 ∧ getB ⟨#[120, 2, 1]⟩ 1 2 = true ∧ getB ⟨#[120]⟩ 1 1 = false by decide +kernel)
  have q3 := Lib.hid (show smallN 7 1 = 7 ∧ smallB 7 1 = true by decide +kernel)
  have q4 := Lib.hid (show turnN 6 (cl 4) = 6 ∧ turnN 1 (cl 3) = 4 ∧ upN 17 16 = 32 ∧ bl 1024 = 11 ∧ maskN 3 = 7 by decide +kernel)
  go_enter Try.func43, Try.ntmps43
  go_wp2_with fail
  refine (put_any 258 2 w (by decide) (by decide) (by decide)).mono ?_
  rintro e w1 ⟨rfl, f1⟩
  rw [q1.out.1, q1.out.2.1]
  go_wp2_with fail
  refine (put_any 256 1 w1 (by decide) (by decide) (by decide)).mono ?_
  rintro e w2 ⟨rfl, f2⟩
  rw [q1.out.2.2]
  go_wp2_with fail
  refine (get_any ⟨#[120, 2, 1]⟩ 1 2 w2 (by decide) (by decide) (by decide)).mono ?_
  rintro e w3 ⟨rfl, f3⟩
  rw [q2.out.1, q2.out.2.1]
  go_wp2_with fail
  refine (get_any ⟨#[120]⟩ 1 1 w3 (by decide) (by decide) (by decide)).mono ?_
  rintro e w4 ⟨rfl, f4⟩
  rw [q2.out.2.2]
  go_wp2_with fail
  refine (small_any 7 1 w4 (by decide) (by decide) (by decide) (by decide)).mono ?_
  rintro e w5 ⟨rfl, f5⟩
  rw [q3.out.1, q3.out.2]
  go_wp2_with fail
  refine (turn_any 6 4 w5 (by decide) (by decide) (by decide)).mono ?_
  rintro e w6 ⟨rfl, rfl⟩
  rw [q4.out.1]
  go_wp2_with fail
  refine (turn_any 1 3 _ (by decide) (by decide) (by decide)).mono ?_
  rintro e w7 ⟨rfl, rfl⟩
  rw [q4.out.2.1]
  go_wp2_with fail
  refine (up_any 17 16 _ (by decide) (by decide) (by decide) (by decide)).mono ?_
  rintro e w8 ⟨rfl, rfl⟩
  rw [q4.out.2.2.1]
  go_wp2_with fail
  refine (log_any 1024 _ (by decide)).mono ?_
  rintro e w9 ⟨rfl, rfl⟩
  rw [q4.out.2.2.2.1]
  go_wp2_with fail
  refine (mask_any 3 _).mono ?_
  rintro e w10 ⟨rfl, rfl⟩
  rw [q4.out.2.2.2.2]
  go_wp2_with fail
  go_ret
  exact ⟨rfl, ((((f1.trans f2).trans f3).trans f4).trans f5)⟩

set_option maxRecDepth 100000 in
set_option maxHeartbeats 1600000 in
theorem wordBits_walk (w : World) (n : Int) (w0 : (Lit.int .u64 n).wf = true) (b : Int) (w1 : (Lit.int .i64 b).wf = true) (u : Int) (w2 : (Lit.int .i64 u).wf = true) (t : Int) (w3 : (Lit.int .i64 t).wf = true) :
    Calls Try.prog 13 #[.int .u64 n, .int .i64 b, .int .i64 u, .int .i64 t] w fun e w' => e = .returned (.bool true) ∧ Below w.heap.size w w' := by
  obtain ⟨n0, n1⟩ := bounds_u64 w0
  obtain ⟨b0, b1⟩ := bounds_i64 w1
  obtain ⟨u0, u1⟩ := bounds_i64 w2
  obtain ⟨t0, t1⟩ := bounds_i64 w3
  obtain ⟨m, rfl⟩ := Int.eq_ofNat_of_zero_le n0
  have hm : m < 2 ^ 64 := by omega
  obtain ⟨x1, hx1⟩ : ∃ x, maskN b = x := ⟨_, rfl⟩
  obtain ⟨x2, hx2⟩ : ∃ x, turnN m (cl b) = x := ⟨_, rfl⟩
  obtain ⟨x3, hx3⟩ : ∃ x : Int, (bl m : Int) - 1 = x := ⟨_, rfl⟩
  obtain ⟨x4, hx4⟩ : ∃ x, upN u t = x := ⟨_, rfl⟩
  have X := Lib.hid (And.intro hx1 (And.intro hx2 (And.intro hx3 hx4)))
  clear hx1 hx2 hx3 hx4 w0 w1 w2 w3 n0
  go_enter Try.func13, Try.ntmps13
  go_wp2_with fail
  refine (mask_any b _).mono ?_
  rintro e w1 ⟨rfl, rfl⟩
  rw [X.out.1]
  go_wp2_with fail
  refine (rmask_any b _ b0 b1).mono ?_
  rintro e w1 ⟨rfl, rfl⟩
  rw [X.out.1]
  go_wp2_with fail
  refine (turn_any m b _ hm b0 b1).mono ?_
  rintro e w1 ⟨rfl, rfl⟩
  rw [X.out.2.1]
  go_wp2_with fail
  refine (rturn_any m b _ hm b0 b1).mono ?_
  rintro e w1 ⟨rfl, rfl⟩
  rw [X.out.2.1]
  go_wp2_with fail
  refine (log_any m _ hm).mono ?_
  rintro e w1 ⟨rfl, rfl⟩
  rw [X.out.2.2.1]
  go_wp2_with fail
  refine (rlog_any m _ hm).mono ?_
  rintro e w1 ⟨rfl, rfl⟩
  rw [X.out.2.2.1]
  go_wp2_with fail
  refine (up_any u t _ u0 u1 t0 t1).mono ?_
  rintro e w1 ⟨rfl, rfl⟩
  rw [X.out.2.2.2]
  go_wp2_with fail
  refine (rup_any u t _ u0 u1 t0 t1).mono ?_
  rintro e w1 ⟨rfl, rfl⟩
  rw [X.out.2.2.2]
  go_wp2_with fail
  refine (alive01 _).mono ?_
  rintro e w1 ⟨rfl, f1⟩
  go_wp2_with fail
  go_ret
  exact ⟨rfl, f1.below⟩

set_option maxRecDepth 100000 in
set_option maxHeartbeats 1600000 in
theorem wordBytes_walk (w : World) (n : Int) (w0 : (Lit.int .u64 n).wf = true) (z : Int) (w1 : (Lit.int .i64 z).wf = true) (s : ByteArray) (w2 : s.size ≤ maxLen) (p : Int) (w3 : (Lit.int .i64 p).wf = true) (x : Int) (w4 : (Lit.int .i64 x).wf = true) :
    Calls Try.prog 12 #[.int .u64 n, .int .i64 z, .string s, .int .i64 p, .int .i64 x] w fun e w' => e = .returned (.bool true) ∧ Below w.heap.size w w' := by
  by_cases hbig : (4096 : Int) < (s.size : Int)
  · go_enter Try.func12, Try.ntmps12
    go_wp2_with fail
    refine (alive01 _).mono ?_
    rintro e w1 ⟨rfl, f1⟩
    go_wp2_with fail
    go_ret
    exact ⟨rfl, f1.below⟩
  obtain ⟨n0, n1⟩ := bounds_u64 w0
  obtain ⟨z0, z1⟩ := bounds_i64 w1
  obtain ⟨p0, p1⟩ := bounds_i64 w3
  obtain ⟨x0, x1⟩ := bounds_i64 w4
  obtain ⟨m, rfl⟩ := Int.eq_ofNat_of_zero_le n0
  have hm : m < 2 ^ 64 := by omega
  have hs : s.size ≤ 1000000000 := by omega
  have hs' : (s.size : Int) ≤ 4096 := by omega
  obtain ⟨y1, hx1⟩ : ∃ x, putS m z = x := ⟨_, rfl⟩
  obtain ⟨y2, hx2⟩ : ∃ x, putB m z = x := ⟨_, rfl⟩
  obtain ⟨y3, hx3⟩ : ∃ x, getN s p z = x := ⟨_, rfl⟩
  obtain ⟨y4, hx4⟩ : ∃ x, getB s p z = x := ⟨_, rfl⟩
  obtain ⟨y5, hx5⟩ : ∃ y, smallN x z = y := ⟨_, rfl⟩
  obtain ⟨y6, hx6⟩ : ∃ y, smallB x z = y := ⟨_, rfl⟩
  have X := Lib.hid (And.intro hx1 (And.intro hx2 (And.intro hx3 (And.intro hx4 (And.intro hx5 hx6)))))
  clear hx1 hx2 hx3 hx4 hx5 hx6 w0 w1 w2 w3 w4 n0 hbig
  go_enter Try.func12, Try.ntmps12
  go_wp2_with fail
  refine (put_any m z _ hm z0 z1).mono ?_
  rintro e w1 ⟨rfl, f1⟩
  rw [X.out.1, X.out.2.1]
  go_wp2_with fail
  refine (rput_any m z _ hm z0 z1).mono ?_
  rintro e w2 ⟨rfl, f2⟩
  rw [X.out.1, X.out.2.1]
  go_wp2_with fail
  refine (get_any s p z _ hs p0 p1).mono ?_
  rintro e w3 ⟨rfl, f3⟩
  rw [X.out.2.2.1, X.out.2.2.2.1]
  go_wp2_with fail
  refine (rget_any s p z _ hs p0 p1).mono ?_
  rintro e w4 ⟨rfl, f4⟩
  rw [X.out.2.2.1, X.out.2.2.2.1]
  go_wp2_with fail
  refine (small_any x z _ x0 x1 z0 z1).mono ?_
  rintro e w5 ⟨rfl, f5⟩
  rw [X.out.2.2.2.2.1, X.out.2.2.2.2.2]
  go_wp2_with fail
  refine (rsmall_any x z _ x0 x1 z0 z1).mono ?_
  rintro e w6 ⟨rfl, f6⟩
  rw [X.out.2.2.2.2.1, X.out.2.2.2.2.2]
  go_wp2_with fail
  refine (alive01 _).mono ?_
  rintro e w7 ⟨rfl, f7⟩
  go_wp2_with fail
  go_ret
  exact ⟨rfl, ((((((f1.trans f2).trans f3).trans f4).trans f5).trans f6).trans f7).below⟩
end Go.Proofs.Ytlognooioemenaa
