/- How long codes must be: Needs, and the number of a number's bits. -/
import Derived.Test.YtciejmlhdmjajaaKRg
import Derived.Test.YtciejmlhdmjajaaKWb
namespace Go.Proofs.Ytciejmlhdmjajaa
open Go.RowKit
set_option linter.unusedVariables false
set_option linter.unusedSimpArgs false

set_option maxRecDepth 100000 in
set_option maxHeartbeats 1600000 in
theorem len_any (x : Nat) (w : World) (h : x < 2 ^ 64) :
    Calls Try.prog 75 #[.int .u64 x] w fun e w' => e = .returned (.int .i64 (bl x : Nat)) ∧ w' = w := by
  have HC := Lib.hid (len64_any x w h)
  go_enter Try.func75, Try.ntmps75
  go_wp2_with fail
  refine HC.out.mono ?_
  rintro e w1 ⟨rfl, rfl⟩
  go_wp2_with fail
  go_ret
  exact ⟨rfl, rfl⟩
/-- The least limit with which n symbols can have codes. -/
def needN (n : Int) : Nat := if n < 1 then 0 else if n < 3 then 1 else bl (n - 1).toNat
set_option maxRecDepth 100000 in
set_option maxHeartbeats 1600000 in
theorem needs_any (n : Int) (w : World) (h0 : -9223372036854775808 ≤ n) (h1 : n ≤ 9223372036854775807) :
    Calls Try.prog 46 #[.int .i64 n] w fun e w' => e = .returned (.int .i64 (needN n : Nat)) ∧ w' = w := by
  by_cases ha : n < 1
  · have HE := Lib.hid (show needN n = 0 by unfold needN; rw [if_pos ha])
    go_enter Try.func46, Try.ntmps46
    go_wp2_with fail
    go_ret
    rw [HE.out]
    exact ⟨rfl, rfl⟩
  · by_cases hb : n < 3
    · have HE := Lib.hid (show needN n = 1 by unfold needN; rw [if_neg ha, if_pos hb])
      have ha' : 1 ≤ n := by omega
      clear ha
      go_enter Try.func46, Try.ntmps46
      go_wp2_with fail
      go_ret
      rw [HE.out]
      exact ⟨rfl, rfl⟩
    · obtain ⟨x, hx⟩ : ∃ x : Nat, (n - 1).toNat = x := ⟨_, rfl⟩
      have ex : n - 1 = (x : Int) := by omega
      have HE := Lib.hid (show needN n = bl x by unfold needN; rw [if_neg ha, if_neg hb, hx])
      have HC := Lib.hid (len_any x w (by omega))
      have hx1 : (x : Int) ≤ 9223372036854775807 := by omega
      have hb' : 3 ≤ n := by omega
      clear ha hb hx
      go_enter Try.func46, Try.ntmps46
      go_wp2_with fail
      refine HC.out.mono ?_
      rintro e w1 ⟨rfl, rfl⟩
      go_wp2_with fail
      go_ret
      rw [HE.out]
      exact ⟨rfl, rfl⟩
end Go.Proofs.Ytciejmlhdmjajaa

