/- The references for symbols' bits, for runs' bits; runs' bits. -/
import Derived.Test.YtciejmlhdmjajaaGreatKEd
namespace Go.Proofs.YtciejmlhdmjajaaGreat
open Go.RowKit
set_option linter.unusedVariables false
set_option linter.unusedSimpArgs false

set_option maxRecDepth 100000 in
set_option maxHeartbeats 1600000 in
theorem refLengthBits_ok (s : Nat) (w : World) (h0 : 257 ≤ s) (h1 : s ≤ 285) : Calls Tryz.prog 70 #[.int .i64 (s : Int)] w fun e w' => e = .returned (.int .i64 (lbN s : Nat)) ∧ w' = w := by
  have h0i : 257 ≤ (s : Int) := by omega
  have h1i : (s : Int) ≤ 285 := by omega
  by_cases ha : s < 265
  · have HE := Lib.hid (show lbN s = 0 by unfold lbN; rw [if_pos (.inl ha)])
    have hai : (s : Int) < 265 := by omega
    clear ha h0 h1
    go_enter Tryz.func70, Tryz.ntmps70
    go_wp2_with fail
    go_ret
    rw [HE.out]
    exact ⟨rfl, rfl⟩
  · by_cases hb : s = 285
    · subst hb
      go_enter Tryz.func70, Tryz.ntmps70
      go_wp2_with fail
      go_ret
      exact ⟨rfl, rfl⟩
    · have hai : 265 ≤ (s : Int) := by omega
      have hbi : ((s : Int) == 285) = false := by rw [beq_eq_false_iff_ne]; omega
      obtain ⟨d, hd⟩ : ∃ d, s - 261 = d := ⟨_, rfl⟩
      have ed : (s : Int) - 261 = (d : Int) := by omega
      have hdb : (d : Int) ≤ 24 := by omega
      have eb : (d : Int) / 4 = ((lbN s : Nat) : Int) := by unfold lbN; rw [if_neg (by omega), ← hd]; omega
      have et : Int.tdiv (d : Int) 4 = ((lbN s : Nat) : Int) := by rw [Int.tdiv_eq_ediv_of_nonneg (by omega)]; exact eb
      obtain ⟨b, hb2⟩ : ∃ b, lbN s = b := ⟨_, rfl⟩
      rw [hb2] at eb et ⊢
      have EB := Lib.hid (And.intro eb et)
      clear ha h0 h1 eb et hb2
      go_enter Tryz.func70, Tryz.ntmps70
      go_wp2_with fail
      go_ret
      refine ⟨?_, rfl⟩
      rw [← EB.out.1]
      rfl
set_option maxRecDepth 100000 in
set_option maxHeartbeats 1600000 in
theorem refDistBits_ok (s : Nat) (w : World) (h1 : s ≤ 29) : Calls Tryz.prog 71 #[.int .i64 (s : Int)] w fun e w' => e = .returned (.int .i64 (dbN s : Nat)) ∧ w' = w := by
  have h0i : 0 ≤ (s : Int) := by omega
  have h1i : (s : Int) ≤ 29 := by omega
  by_cases ha : s < 4
  · have HE := Lib.hid (show dbN s = 0 by unfold dbN; rw [if_pos ha])
    have hai : (s : Int) < 4 := by omega
    clear ha h1
    go_enter Tryz.func71, Tryz.ntmps71
    go_wp2_with fail
    go_ret
    rw [HE.out]
    exact ⟨rfl, rfl⟩
  · have hai : 4 ≤ (s : Int) := by omega
    obtain ⟨d, hd⟩ : ∃ d, s - 2 = d := ⟨_, rfl⟩
    have ed : (s : Int) - 2 = (d : Int) := by omega
    have hdb : (d : Int) ≤ 27 := by omega
    have eb : (d : Int) / 2 = ((dbN s : Nat) : Int) := by unfold dbN; rw [if_neg ha, ← hd]; omega
    obtain ⟨b, hb2⟩ : ∃ b, dbN s = b := ⟨_, rfl⟩
    rw [hb2] at eb ⊢
    have EB := Lib.hid eb
    clear ha h1 eb hb2
    go_enter Tryz.func71, Tryz.ntmps71
    go_wp2_with fail
    go_ret
    refine ⟨?_, rfl⟩
    rw [← EB.out]
    rfl
/-- How many bits more tell a run. -/
def rbN (s : Nat) : Nat := if s < 16 then 0 else if s = 16 then 2 else if s = 17 then 3 else 7
set_option maxRecDepth 100000 in
set_option maxHeartbeats 1600000 in
theorem rows_ok (w : World) : Calls Tryz.prog 64 #[] w fun e w' => e = .returned (.agg #[.int .i64 3, .int .i64 2, .int .i64 3, .int .i64 3, .int .i64 11, .int .i64 7]) ∧ Fr [] w w' := by
  go_enter Tryz.func64, Tryz.ntmps64
  go_wp2_with fail
  refine bodyPost_ret (results_cell_row rfl _ _ w.heap.size 127 _ _ _ rfl (alloc_last _ _) Tryz.underlying127 rfl (by kernel_rfl)) rfl ?_
  exact ⟨rfl, Fr.alloc _ _ _⟩
theorem run_rows0 (w : World) : (Instr.index 127 (.agg #[.int .i64 3, .int .i64 2, .int .i64 3, .int .i64 3, .int .i64 11, .int .i64 7]) (.int .u8 0)).run Tryz.prog w = .ok (.agg #[.int .i64 3, .int .i64 2]) w := by
  simp [Instr.index, run_underlying Tryz.underlying127, asIntOf, go_sem]
  try rfl
theorem run_row0 (w : World) : (Instr.index 126 (.agg #[.int .i64 3, .int .i64 2]) (.int .i64 1)).run Tryz.prog w = .ok (.int .i64 2) w := by
  simp [Instr.index, run_underlying Tryz.underlying126, asIntOf, go_sem]
  try rfl
theorem run_rows1 (w : World) : (Instr.index 127 (.agg #[.int .i64 3, .int .i64 2, .int .i64 3, .int .i64 3, .int .i64 11, .int .i64 7]) (.int .u8 1)).run Tryz.prog w = .ok (.agg #[.int .i64 3, .int .i64 3]) w := by
  simp [Instr.index, run_underlying Tryz.underlying127, asIntOf, go_sem]
  try rfl
theorem run_row1 (w : World) : (Instr.index 126 (.agg #[.int .i64 3, .int .i64 3]) (.int .i64 1)).run Tryz.prog w = .ok (.int .i64 3) w := by
  simp [Instr.index, run_underlying Tryz.underlying126, asIntOf, go_sem]
  try rfl
theorem run_rows2 (w : World) : (Instr.index 127 (.agg #[.int .i64 3, .int .i64 2, .int .i64 3, .int .i64 3, .int .i64 11, .int .i64 7]) (.int .u8 2)).run Tryz.prog w = .ok (.agg #[.int .i64 11, .int .i64 7]) w := by
  simp [Instr.index, run_underlying Tryz.underlying127, asIntOf, go_sem]
  try rfl
theorem run_row2 (w : World) : (Instr.index 126 (.agg #[.int .i64 11, .int .i64 7]) (.int .i64 1)).run Tryz.prog w = .ok (.int .i64 7) w := by
  simp [Instr.index, run_underlying Tryz.underlying126, asIntOf, go_sem]
  try rfl
set_option maxRecDepth 100000 in
set_option maxHeartbeats 1600000 in
theorem runBits_ok (s : Nat) (w : World) (h1 : s ≤ 18) : Calls Tryz.prog 41 #[.int .u8 (s : Int)] w fun e w' => e = .returned (.tuple #[.int .i64 (rbN s : Nat), .bool true]) ∧ Fr [] w w' := by
  by_cases ha : s < 16
  · have HE := Lib.hid (show rbN s = 0 by unfold rbN; rw [if_pos ha])
    have h0i : 0 ≤ (s : Int) := by omega
    have hai : (s : Int) < 16 := by omega
    clear ha h1
    go_enter Tryz.func41, Tryz.ntmps41
    go_wp2_with fail
    go_ret2
    rw [HE.out]
    exact ⟨rfl, Fr.refl _ _⟩
  · have h2 : s = 16 ∨ s = 17 ∨ s = 18 := by omega
    rcases h2 with rfl | rfl | rfl
    · go_enter Tryz.func41, Tryz.ntmps41
      go_wp2_with fail
      refine (rows_ok w).mono ?_
      rintro e w1 ⟨rfl, f1⟩
      go_wp2_with fail
      rw [run_rows0]
      go_wp2_with fail
      rw [run_row0]
      go_wp2_with fail
      go_ret2
      exact ⟨rfl, f1⟩
    · go_enter Tryz.func41, Tryz.ntmps41
      go_wp2_with fail
      refine (rows_ok w).mono ?_
      rintro e w1 ⟨rfl, f1⟩
      go_wp2_with fail
      rw [run_rows1]
      go_wp2_with fail
      rw [run_row1]
      go_wp2_with fail
      go_ret2
      exact ⟨rfl, f1⟩
    · go_enter Tryz.func41, Tryz.ntmps41
      go_wp2_with fail
      refine (rows_ok w).mono ?_
      rintro e w1 ⟨rfl, f1⟩
      go_wp2_with fail
      rw [run_rows2]
      go_wp2_with fail
      rw [run_row2]
      go_wp2_with fail
      go_ret2
      exact ⟨rfl, f1⟩
end Go.Proofs.YtciejmlhdmjajaaGreat

