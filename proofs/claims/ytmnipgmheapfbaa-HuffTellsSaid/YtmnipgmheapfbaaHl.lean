/- The first bits of a row: huff's (*Table).row. -/
import Derived.Test.YtmnipgmheapfbaaHk
namespace Go.Proofs.Ytmnipgmheapfbaa
open Go.RowKit
set_option linter.unusedVariables false
set_option linter.unusedSimpArgs false

theorem maskN_nat (k : Nat) (h : k ≤ 64) : maskN (k : Int) = 2 ^ k - 1 := by unfold maskN; rw [show min (k : Int).toNat 64 = k by omega]

set_option maxRecDepth 2000000 in
set_option maxHeartbeats 1600000 in
theorem row_any (tb f x : Nat) (v1 v2 : Value) (w : World) (ht : w.heap[tb]? = some (.cells #[.int .i64 (f : Int), v1, v2] 71 (0, 0))) (hf : f ≤ 15) (hx : x < 18446744073709551616) :
    Calls Try.prog 30 #[.pointer (some ⟨tb, 0, none⟩), .int .u64 (x : Int)] w fun e w' => e = .returned (.agg #[.int .u64 ((x % 2 ^ f : Nat) : Int), .int .i64 (f : Int)]) ∧ Fr [] w w' := by
  have c0 := cell_of ht 0
  simp only [List.size_toArray, List.getElem?_toArray, List.getElem?_cons_zero] at c0
  have hi1 : (x : Int) < 18446744073709551616 := by omega
  have hi2 : (f : Int) ≤ 15 := by omega
  have hlt := lt_of ht
  have hm := fun W => mask_any (f : Int) W
  rw [maskN_nat f (by omega)] at hm
  obtain ⟨m, hmm⟩ : ∃ m, 2 ^ f - 1 = m := ⟨_, rfl⟩
  obtain ⟨z, hz⟩ : ∃ z, x % 2 ^ f = z := ⟨_, rfl⟩
  have hxm : bits BinOp.and IntKind.u64 (x : Int) (m : Int) = (z : Int) := by rw [← hmm, ← hz]; exact and_mask x f hx (by omega)
  rw [hmm] at hm
  rw [hz]
  have HM := Lib.hid hm
  clear hm hmm hf hx ht hz
  go_enter Try.func30, Try.ntmps30
  go_wp2_with fail
  refine wp_region_quiet_tail 12 (by kernel_rfl) (by kernel_rfl) ?_
  simp only [List.take_succ_cons, List.take_zero, List.drop_succ_cons, List.drop_zero]
  repeat go_big_quiet_step (fail)
  (go_big_quiet_want; go_big_quiet_op; refine ⟨_, HM.out _, ?_⟩; go_big_quiet_on)
  repeat go_big_quiet_step (fail)
  refine wpQuiet_nil ?_
  go_wp2_with fail
  refine bodyPost_ret (v := .agg #[.int .u64 (z : Int), .int .i64 (f : Int)]) (by simp [results, Try.results30, go_sem]) rfl ⟨rfl, Fr.drew (Fr.alloc _ _ _)⟩
end Go.Proofs.Ytmnipgmheapfbaa

