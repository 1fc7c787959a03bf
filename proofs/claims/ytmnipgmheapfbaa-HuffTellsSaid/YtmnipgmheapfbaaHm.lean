/- huff's maps: their keys; the cells that are made. -/
import Derived.Test.YtmnipgmheapfbaaHl
import Derived.Test.YtmnipgmheapfbaaMap
import Derived.Carry
namespace Go.Proofs.Ytmnipgmheapfbaa
open Go.RowKit
open Go.Maps (Keyed)
set_option linter.unusedVariables false
set_option linter.unusedSimpArgs false

theorem row_wide : (match Try.prog.underlying 74 with | some (.array _ _) | some (.struct _) => true | _ => false) = true := by kernel_rfl
theorem laid_out : laidOutB Try.prog = true := by kernel_rfl
theorem rowK : Keyed Try.prog 74 := Keyed.of_law (deep_law_laid laid_out (m := 2) (by omega) (of_decide_eq_true (by kernel_rfl)) (by kernel_rfl) row_wide)
theorem row_cells : Try.prog.cellsOf 74 = 2 := by kernel_rfl
theorem u64_cells : Try.prog.cellsOf 23 = 1 := by kernel_rfl
theorem int_cells : Try.prog.cellsOf 3 = 1 := by kernel_rfl
theorem row_kt : Try.prog.keyType 74 = true := by kernel_rfl
theorem row_sz : ∃ m, Try.prog.types.size = m + 1 := ⟨Try.prog.types.size - 1, by have : 0 < Try.prog.types.size := of_decide_eq_true (by kernel_rfl); omega⟩
theorem row_key (f k : Nat) (hf : f ≤ 15) (hk : k < 18446744073709551616) : keyOf Try.prog 74 (rk f k) = some (.string (keyBytes [.int .u64 (k : Int), .int .i64 (f : Int)])) := by
  obtain ⟨m, hm⟩ := row_sz
  have wa : (Lit.int .u64 (k : Int)).wf = true := by simp [Lit.wf, IntKind.min, IntKind.max, IntKind.signed, IntKind.bits]; omega
  have wb : (Lit.int .i64 (f : Int)).wf = true := WalkArith.wf_i64 (by omega)
  unfold keyOf rk
  simp only [Try.underlying74]
  rw [if_pos (by simp [row_kt, Value.formed, Try.underlying74, row_cells]), hm]
  unfold Program.keyLits
  simp only [Try.underlying74, Value.cells]
  simp [row_cells, u64_cells, int_cells, Program.keyLits, Try.underlying23, Try.underlying3, wa, wb, List.mapM_cons, List.mapM_nil]
theorem clinfo : ∃ i0 : TypeInfo, Try.prog.info? 82 = some i0 ∧ i0.zero = some (.agg #[.int .i64 0, .int .i64 0]) ∧ i0.size = 2 ∧ i0.bytes = 16 :=
  info_parts (show (Try.prog.info? 82).map (fun i => (i.zero, i.size, i.bytes)) = some (some (.agg #[.int .i64 0, .int .i64 0]), 2, 16) by kernel_rfl)
theorem run_make_cells (n : Nat) (hn : n ≤ 1000000000) (w : World) : (Instr.makeSlice 68 (.int .i64 (n : Int)) (.int .i64 (n : Int))).run Try.prog w =
    .ok (.slice (some ⟨w.heap.size, 0, none⟩) n n) (w.alloc (.cells ((List.range n).flatMap fun j => Cl ((fun _ => (0, 0)) j)).toArray 82)) := by
  obtain ⟨i0, hi, hz0, hz1, hz2⟩ := clinfo
  have h := run_make (P := Try.prog) w 68 82 i0 _ Try.underlying68 hi hz0 .i64 .i64 n n (by omega) (Int.le_refl _) (by rw [hz2]; omega) (by omega)
  rw [h, hz1, Int.toNat_natCast]
  exact congrArg (fun x => Result.ok (Value.slice (some ⟨w.heap.size, 0, none⟩) n n) (w.alloc (.cells x 82))) (made_two (.int .i64 0) (.int .i64 0) n)
end Go.Proofs.Ytmnipgmheapfbaa

