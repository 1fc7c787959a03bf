/- The statement HuffNil: the walk of its Go function. -/
import Derived.Test.YtmnipgmheapfbaaHs
import Derived.Test.YtmnipgmheapfbaaSi
namespace Go.Proofs.Ytmnipgmheapfbaa
open Go.RowKit
set_option linter.unusedVariables false
set_option linter.unusedSimpArgs false

theorem un_u8 : Un .u8 = U8 := rfl
theorem kh_ : kindN [1, 1] = 2 := by decide
theorem nil_new (g : Nat) (w : World) (h : w.heap[g]? = some (.cells #[.int .u8 1, .int .u8 1] 5 (0, 0))) :
    Calls Try.prog 9 #[.slice (some ⟨g, 0, none⟩) 2 2, .int .i64 1] w fun e w' => ∃ tb, e = .returned (.tuple #[.pointer (some ⟨tb, 0, none⟩), .int .i64 0]) ∧ w.heap.size ≤ tb ∧ Tb w' w'.heap.size tb [1, 1] 1 ∧ Fr [] w w' :=
  hnew_any (some ⟨g, 0, none⟩) 2 [1, 1] 1 w (sl_brow h) (by decide) (by decide) (by decide) (by decide) (by decide) (by decide) (by decide)
set_option maxRecDepth 2000000 in
set_option maxHeartbeats 3200000 in
theorem huffNil_walk (w : World) (a0 : Int) (w0 : (Lit.int .u64 a0).wf = true) (a1 : Int) (w1 : (Lit.int .i64 a1).wf = true) :
    Calls Try.prog 5 #[.int .u64 a0, .int .i64 a1] w fun e w' => e = .returned (.bool true) ∧ Below w.heap.size w w' := by
  clear w0 w1
  go_enter Try.func5, Try.ntmps5
  go_wp2_with fail
  refine (look_nil _ _ _).mono ?_
  rintro e w1 ⟨rfl, f1⟩
  have HF1 := Lib.hid f1
  clear f1
  go_wp2_with fail
  refine (rnew_any _ _).mono ?_
  rintro e w2 ⟨rfl, _, f2⟩
  have HF2 := Lib.hid (HF1.out.trans f2)
  clear f2 HF1
  go_wp2_with fail
  refine (next_nil1 _ _).mono ?_
  rintro e w3 ⟨rfl, f3⟩
  have HF3 := Lib.hid (HF2.out.trans f3)
  have HB3 := Lib.hid (new_of w3 (.cells #[.int .u8 1, .int .u8 1] 5))
  clear f3 HF2
  go_wp2_with fail
  refine (nil_new _ _ HB3.out).mono ?_
  rintro e w4 ⟨tb, rfl, _, _, f4⟩
  have HF4 := Lib.hid ((HF3.out.trans (Fr.alloc _ _ _)).trans f4)
  clear f4 HF3 HB3
  go_wp2_with fail
  refine (next_nil2 _ _).mono ?_
  rintro e w5 ⟨rfl, f5⟩
  have HF5 := Lib.hid (HF4.out.trans f5)
  clear f5 HF4
  go_wp2_with fail
  refine (cells_nilT _).mono ?_
  rintro e w6 ⟨rfl, f6⟩
  have HF6 := Lib.hid (HF5.out.trans f6)
  clear f6 HF5
  go_wp2_with fail
  refine (alive_any _).mono ?_
  rintro e w7 ⟨rfl, f7⟩
  have HF7 := Lib.hid (HF6.out.trans f7)
  clear f7 HF6
  go_wp2_with fail
  go_ret
  exact ⟨rfl, HF7.out.below⟩
end Go.Proofs.Ytmnipgmheapfbaa

