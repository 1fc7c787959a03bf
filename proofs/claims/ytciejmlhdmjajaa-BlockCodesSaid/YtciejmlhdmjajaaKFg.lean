/- platenref13: the fixed codes. The document's examples of layer 13. platenref13.Order: the order of code lengths of code lengths. BlockCodes: the fixed codes, the best ones, and the order. -/
import Derived.Test.YtciejmlhdmjajaaKEh
import Derived.Test.YtciejmlhdmjajaaKPi
import Derived.Test.YtciejmlhdmjajaaKEm
import Derived.Test.YtciejmlhdmjajaaKEf
import Derived.Test.YtciejmlhdmjajaaKEv
import Derived.Test.YtciejmlhdmjajaaKFe
namespace Go.Proofs.Ytciejmlhdmjajaa
open Go.RowKit
set_option linter.unusedVariables false
set_option linter.unusedSimpArgs false

set_option maxRecDepth 100000 in
set_option maxHeartbeats 3200000 in
theorem refFixed_ok (w : World) : Calls Try.prog 13 #[] w fun e w' => ∃ g1 g2, e = .returned (.agg #[.slice (some ⟨g1, 0, none⟩) 288 288, .slice (some ⟨g2, 0, none⟩) 30 30]) ∧ w.heap.size ≤ g1 ∧ w.heap.size ≤ g2 ∧ Nrow w' g1 5 .u8 288 fixF ∧ Nrow w' g2 5 .u8 30 (fun _ => 5) ∧ Fr [] w w' := by
  have hm1 : ∀ W : World, (Instr.makeSlice 25 (.int .i64 288) (.int .i64 288)).run Try.prog W = .ok (.slice (some ⟨W.heap.size, 0, none⟩) 288 288) (W.alloc (.cells (zr8 288) 5)) := fun W => run_make_bytes W 288 (by omega)
  have hm2 : ∀ W : World, (Instr.makeSlice 25 (.int .i64 30) (.int .i64 30)).run Try.prog W = .ok (.slice (some ⟨W.heap.size, 0, none⟩) 30 30) (W.alloc (.cells (zr8 30) 5)) := fun W => run_make_bytes W 30 (by omega)
  go_enter Try.func13, Try.ntmps13
  go_upto_region 1 with fail
  go_cut [1] from 4 to 6 (fun v1 wx => FixMade (w.alloc (.cells #[.slice none 0 0, .slice none 0 0] 27)) v1 wx)
  case first =>
    go_wp2_with fail
    go_region
    all_goals go_wp2_with fail
    all_goals go_meet
    case rel => exact ⟨w.heap.size + 1 + 1 + 1, w.heap.size + 1, w.heap.size + 1 + 1, rfl, by omega, by omega, by omega, by simp <;> omega, by simp <;> omega, by simp <;> omega, by unfold CodesM; simp only [get_drew, get_alloc, World.size_alloc]; simp, by unfold Nrow; rw [← zr8_row]; simp only [get_drew, get_alloc, World.size_alloc]; simp, by unfold Nrow; rw [← zr8_row]; simp only [get_drew, get_alloc, World.size_alloc]; simp, (((Fr.alloc [] _ _).trans (Fr.alloc [] _ _)).trans (Fr.alloc [] _ _)).drew⟩
    case rel => exact ⟨w.heap.size + 1 + 1, w.heap.size + 1, w.heap.size + 1 + 1 + 1, rfl, by omega, by omega, by omega, by simp <;> omega, by simp <;> omega, by simp <;> omega, by unfold CodesM; simp only [get_drew, get_alloc, World.size_alloc]; simp, by unfold Nrow; rw [← zr8_row]; simp only [get_drew, get_alloc, World.size_alloc]; simp, by unfold Nrow; rw [← zr8_row]; simp only [get_drew, get_alloc, World.size_alloc]; simp, (((Fr.alloc [] _ _).trans (Fr.alloc [] _ _)).trans (Fr.alloc [] _ _)).drew⟩
    case rel => exact ⟨w.heap.size + 1 + 1 + 1, w.heap.size + 1 + 1, w.heap.size + 1, rfl, by omega, by omega, by omega, by simp <;> omega, by simp <;> omega, by simp <;> omega, by unfold CodesM; simp only [get_drew, get_alloc, World.size_alloc]; simp, by unfold Nrow; rw [← zr8_row]; simp only [get_drew, get_alloc, World.size_alloc]; simp, by unfold Nrow; rw [← zr8_row]; simp only [get_drew, get_alloc, World.size_alloc]; simp, (((Fr.alloc [] _ _).trans (Fr.alloc [] _ _)).trans (Fr.alloc [] _ _)).drew⟩
    case rel => exact ⟨w.heap.size + 1 + 1, w.heap.size + 1 + 1 + 1, w.heap.size + 1, rfl, by omega, by omega, by omega, by simp <;> omega, by simp <;> omega, by simp <;> omega, by unfold CodesM; simp only [get_drew, get_alloc, World.size_alloc]; simp, by unfold Nrow; rw [← zr8_row]; simp only [get_drew, get_alloc, World.size_alloc]; simp, by unfold Nrow; rw [← zr8_row]; simp only [get_drew, get_alloc, World.size_alloc]; simp, (((Fr.alloc [] _ _).trans (Fr.alloc [] _ _)).trans (Fr.alloc [] _ _)).drew⟩
    case rel => exact ⟨w.heap.size + 1, w.heap.size + 1 + 1, w.heap.size + 1 + 1 + 1, rfl, by omega, by omega, by omega, by simp <;> omega, by simp <;> omega, by simp <;> omega, by unfold CodesM; simp only [get_drew, get_alloc, World.size_alloc]; simp, by unfold Nrow; rw [← zr8_row]; simp only [get_drew, get_alloc, World.size_alloc]; simp, by unfold Nrow; rw [← zr8_row]; simp only [get_drew, get_alloc, World.size_alloc]; simp, (((Fr.alloc [] _ _).trans (Fr.alloc [] _ _)).trans (Fr.alloc [] _ _)).drew⟩
    case rel => exact ⟨w.heap.size + 1, w.heap.size + 1 + 1 + 1, w.heap.size + 1 + 1, rfl, by omega, by omega, by omega, by simp <;> omega, by simp <;> omega, by simp <;> omega, by unfold CodesM; simp only [get_drew, get_alloc, World.size_alloc]; simp, by unfold Nrow; rw [← zr8_row]; simp only [get_drew, get_alloc, World.size_alloc]; simp, by unfold Nrow; rw [← zr8_row]; simp only [get_drew, get_alloc, World.size_alloc]; simp, (((Fr.alloc [] _ _).trans (Fr.alloc [] _ _)).trans (Fr.alloc [] _ _)).drew⟩
  case rest =>
  obtain ⟨b, g1, g2, rfl, n1, n2, n3, hb, h1, h2, hC, hN1, hN2, hf⟩ := hcut
  have hR := hf.blk (alloc_last w _) (by simp)
  simp only [World.size_alloc] at hb h1 h2
  have HN := Lib.hid (And.intro n1 (And.intro n2 (And.intro n3 (And.intro hb (And.intro h1 (And.intro h2 (And.intro hf hR)))))))
  have c0 := cell_of hC 0
  have c1 := cell_of hC 1
  simp at c0 c1
  have HC := Lib.hid (And.intro hC (And.intro hN1 hN2))
  clear n1 n2 n3 hb h1 h2 hf hR hC hN1 hN2 hm1 hm2
  go_wp2_with fail
  go_loopw [2] (fun v10 wr => ∃ k : Nat, k ≤ 288 ∧ v10 = .int .i64 (k : Int) ∧ CodesM wr b g1 g2 288 ∧ Nrow wr g1 5 .u8 288 (fun s => if s < k then fixF s else 0) ∧ Nrow wr g2 5 .u8 30 (fun _ => 0) ∧ Fr [] (w.alloc (.cells #[.slice none 0 0, .slice none 0 0] 27)) wr) (fun v10 _ => 288 - (intOf v10).toNat)
  case atStart => exact ⟨0, by omega, rfl, HC.out.1, HC.out.2.1.congr fun _ _ => by simp, HC.out.2.2, HN.out.2.2.2.2.2.2.1⟩
  case round =>
    obtain ⟨k, hk, rfl, hC, hN1, hN2, hf⟩ := hrel
    clear c0 c1
    obtain ⟨n1, n2, n3, hb, h1, h2, _, _⟩ := HN.out
    have c0 := cell_of hC 0
    simp at c0
    by_cases hlt : k < 288
    · have hki : (k : Int) < 288 := by omega
      have z := free_of hN1 k
      have zc := hN1.cell k hlt
      have HW := Lib.hid (And.intro hC (And.intro hN1 (And.intro hN2 hf)))
      clear hC hN1 hN2 hf
      by_cases ha : k < 144
      · have hai : (k : Int) < 144 := by omega
        have HF := Lib.hid (show fixF k = 8 by unfold fixF; rw [if_pos ha])
        clear ha
        go_wp2_with fail
        go_roundw
        case rel => exact ⟨k + 1, by omega, by go_num, (Fr.setCell _ _ _ _).blk HW.out.1 (by simp; omega), by
          have s1 := HW.out.2.1.set_ (G := fun s => if s < k + 1 then fixF s else 0) k 8 (fun j hj => fix_step fixF k _ HF.out j)
          simpa using s1, HW.out.2.2.1.to (Fr.setCell _ _ _ _) (by simp; omega), (Fr.setCell _ _ _ _).outL HW.out.2.2.2 (by simp; omega)⟩
        case measure => simp [intOf]; omega
      · have hai : 144 ≤ (k : Int) := by omega
        by_cases hb2 : k < 256
        · have hbi : (k : Int) < 256 := by omega
          have hci : (k : Int) < 280 := by omega
          have HF := Lib.hid (show fixF k = 9 by unfold fixF; rw [if_neg ha, if_pos hb2])
          clear ha hb2
          go_wp2_with fail
          go_roundw
          case rel => exact ⟨k + 1, by omega, by go_num, (Fr.setCell _ _ _ _).blk HW.out.1 (by simp; omega), by
            have s1 := HW.out.2.1.set_ (G := fun s => if s < k + 1 then fixF s else 0) k 9 (fun j hj => fix_step fixF k _ HF.out j)
            simpa using s1, HW.out.2.2.1.to (Fr.setCell _ _ _ _) (by simp; omega), (Fr.setCell _ _ _ _).outL HW.out.2.2.2 (by simp; omega)⟩
          case measure => simp [intOf]; omega
        · have hbi : 256 ≤ (k : Int) := by omega
          by_cases hc2 : k < 280
          · have hci : (k : Int) < 280 := by omega
            have HF := Lib.hid (show fixF k = 7 by unfold fixF; rw [if_neg ha, if_neg hb2, if_pos hc2])
            clear ha hb2 hc2
            go_wp2_with fail
            go_roundw
            case rel => exact ⟨k + 1, by omega, by go_num, (Fr.setCell _ _ _ _).blk HW.out.1 (by simp; omega), by
              have s1 := HW.out.2.1.set_ (G := fun s => if s < k + 1 then fixF s else 0) k 7 (fun j hj => fix_step fixF k _ HF.out j)
              simpa using s1, HW.out.2.2.1.to (Fr.setCell _ _ _ _) (by simp; omega), (Fr.setCell _ _ _ _).outL HW.out.2.2.2 (by simp; omega)⟩
            case measure => simp [intOf]; omega
          · have hci : 280 ≤ (k : Int) := by omega
            have HF := Lib.hid (show fixF k = 8 by unfold fixF; rw [if_neg ha, if_neg hb2, if_neg hc2])
            clear ha hb2 hc2
            go_wp2_with fail
            go_roundw
            case rel => exact ⟨k + 1, by omega, by go_num, (Fr.setCell _ _ _ _).blk HW.out.1 (by simp; omega), by
              have s1 := HW.out.2.1.set_ (G := fun s => if s < k + 1 then fixF s else 0) k 8 (fun j hj => fix_step fixF k _ HF.out j)
              simpa using s1, HW.out.2.2.1.to (Fr.setCell _ _ _ _) (by simp; omega), (Fr.setCell _ _ _ _).outL HW.out.2.2.2 (by simp; omega)⟩
            case measure => simp [intOf]; omega
    · have hke : k = 288 := by omega
      subst hke
      have c1 := cell_of hC 1
      simp at c1
      have HW := Lib.hid (And.intro hC (And.intro (hN1.congr (G := fixF) fun j hj => by rw [if_pos hj]) (And.intro hN2 hf)))
      clear hC hN1 hN2 hf
      go_wp2_with fail
      clear c0 c1
      go_loopw [3] (fun v10 wr => ∃ k : Nat, k ≤ 30 ∧ v10 = .int .i64 (k : Int) ∧ CodesM wr b g1 g2 288 ∧ Nrow wr g1 5 .u8 288 fixF ∧ Nrow wr g2 5 .u8 30 (fun s => if s < k then 5 else 0) ∧ Fr [] (w.alloc (.cells #[.slice none 0 0, .slice none 0 0] 27)) wr) (fun v10 _ => 30 - (intOf v10).toNat)
      case atStart => exact ⟨0, by omega, rfl, HW.out.1, HW.out.2.1, HW.out.2.2.1.congr fun _ _ => by simp, HW.out.2.2.2⟩
      case round =>
        obtain ⟨k, hk, rfl, hC, hN1, hN2, hf⟩ := hrel
        have c1 := cell_of hC 1
        simp at c1
        by_cases hlt : k < 30
        · have hki : (k : Int) < 30 := by omega
          have z := free_of hN2 k
          have zc := hN2.cell k hlt
          have HW := Lib.hid (And.intro hC (And.intro hN1 (And.intro hN2 hf)))
          clear hC hN1 hN2 hf
          go_wp2_with fail
          go_roundw
          case rel => exact ⟨k + 1, by omega, by go_num, (Fr.setCell _ _ _ _).blk HW.out.1 (by simp; omega), HW.out.2.1.to (Fr.setCell _ _ _ _) (by simp; omega), by
            have s1 := HW.out.2.2.1.set_ (G := fun s => if s < k + 1 then 5 else 0) k 5 (fun j hj => fix_step (fun _ => 5) k 5 rfl j)
            simpa using s1, (Fr.setCell _ _ _ _).outL HW.out.2.2.2 (by simp; omega)⟩
          case measure => simp [intOf]; omega
        · have hke : k = 30 := by omega
          subst hke
          have c0 := cell_of hC 0
          simp at c0
          have hR := hf.blk (alloc_last w _) (by simp)
          have r0 := cell_of hR 0
          have r1 := cell_of hR 1
          have fr0 := free_of hR 0
          have fr1 := free_of hR 1
          simp at r0 r1
          have HW := Lib.hid (And.intro hR (And.intro hN1 (And.intro (hN2.congr (G := fun _ => 5) fun j hj => by rw [if_pos hj]) hf)))
          clear hC hN1 hN2 hf hR
          go_wp2_with fail
          obtain ⟨hR, hN1, hN2, hf⟩ := HW.out
          have fs1 := Fr.setCell wr w.heap.size 0 (.slice (some ⟨g1, 0, none⟩) 288 288)
          have s1 := set_of hR 0 (.slice (some ⟨g1, 0, none⟩) 288 288)
          have fs2 := Fr.setCell (wr.setCell ⟨w.heap.size, 0, none⟩ (.slice (some ⟨g1, 0, none⟩) 288 288)) w.heap.size 1 (.slice (some ⟨g2, 0, none⟩) 30 30)
          have s2 := set_of s1 1 (.slice (some ⟨g2, 0, none⟩) 30 30)
          have fs := fs1.trans fs2
          have e1 : ((#[Value.slice none 0 0, Value.slice none 0 0] : Array Value).setIfInBounds 0 (.slice (some ⟨g1, 0, none⟩) 288 288)).setIfInBounds 1 (.slice (some ⟨g2, 0, none⟩) 30 30) = #[.slice (some ⟨g1, 0, none⟩) 288 288, .slice (some ⟨g2, 0, none⟩) 30 30] := by simp
          rw [e1] at s2
          (try simp only [Exit.inBlock, Exit.then])
          refine bodyPost_ret (results_cell_row rfl _ _ w.heap.size 27 _ _ _ rfl s2 Try.underlying27 rfl (by kernel_rfl)) rfl ?_
          refine ⟨g1, g2, rfl, by omega, by omega, hN1.to fs (by simp; omega), hN2.to fs (by simp; omega), fs.outL ((Fr.alloc [] _ _).trans hf) (by simp)⟩
end Go.Proofs.Ytciejmlhdmjajaa
namespace Go.Proofs.Ytciejmlhdmjajaa
open Go.RowKit
set_option linter.unusedVariables false
set_option linter.unusedSimpArgs false

set_option maxRecDepth 100000 in
set_option maxHeartbeats 3200000 in
theorem works13 (w : World) : Calls Try.prog 9 #[] w fun e w' => e = .returned (.bool true) ∧ Fr [] w w' := by
  have hS1 : Hid (∀ W, Calls Try.prog 18 #[.int .u8 1, .slice none 0 0, .string ByteArray.empty, .int .i64 0] W fun e w' => e = .returned (.tuple #[.int .i64 10, .int .i64 0]) ∧ Fr [] W w') := Lib.hid fun W => by
    have h := size_fixed none 0 [] ByteArray.empty 0 W (by omega) (by decide) (fun h => absurd rfl h) (by decide) (by simp) (by simp)
    have e : takesL fixLit fixDist (symsL []) = 7 := by decide +kernel
    rw [e] at h
    exact h
  have hS2 : Hid (∀ W, Calls Try.prog 18 #[.int .u8 0, .slice none 0 0, .string ⟨#[97, 98, 99]⟩, .int .i64 0] W fun e w' => e = .returned (.tuple #[.int .i64 64, .int .i64 0]) ∧ Fr [] W w') := Lib.hid fun W => by
    have h := size_stored none 0 [] ⟨#[97, 98, 99]⟩ 0 W (by omega) (by decide)
    exact h
  go_enter Try.func9, Try.ntmps9
  go_wp2_with fail
  refine (hS1.out _).mono ?_
  rintro e w1 ⟨rfl, f1⟩
  have F1 := Lib.hid f1
  clear f1
  go_wp2_with fail
  refine (hS2.out _).mono ?_
  rintro e w2 ⟨rfl, f2⟩
  have F2 := Lib.hid (F1.out.trans f2)
  clear f2
  go_wp2_with fail
  refine (order_ok _).mono ?_
  rintro e w3 ⟨rfl, ho, f3⟩
  have F3 := Lib.hid (And.intro (F2.out.trans f3) ho)
  clear f3 ho
  go_wp2_with fail
  refine (fixed_ok _).mono ?_
  rintro e w4 ⟨g1, g2, rfl, hg1, hg2, hn1, hn2, f4⟩
  have ho := f4.blk F3.out.2 (by simp)
  have F4 := Lib.hid (F3.out.1.trans f4)
  have o0 := cell_of ho 0
  have c200 := hn1.cell 200 (by omega)
  have e200 : fixF 200 = 9 := by decide
  rw [e200] at c200
  have l0 := lt_of ho
  have l1 := lt_of hn1
  have e0 : orderC[0]? = some (.int .u8 16) := rfl
  rw [e0] at o0
  clear ho f4 hn1 hn2 hg1 hg2 e0 e200
  go_wp2_with fail
  go_ret
  exact ⟨rfl, F4.out.trans (Fr.alloc _ _ _)⟩
end Go.Proofs.Ytciejmlhdmjajaa
namespace Go.Proofs.Ytciejmlhdmjajaa
open Go.RowKit
set_option linter.unusedVariables false
set_option linter.unusedSimpArgs false

set_option maxRecDepth 100000 in
set_option maxHeartbeats 1600000 in
theorem refOrder_ok (w : World) : Calls Try.prog 16 #[] w fun e w' => e = .returned (.slice (some ⟨w.heap.size, 0, none⟩) 19 19) ∧ w'.heap[w.heap.size]? = some (.cells orderC 5 (0, 0)) ∧ Fr [] w w' := by
  go_enter Try.func16, Try.ntmps16
  go_wp2_with fail
  go_ret
  exact ⟨rfl, alloc_last _ _, Fr.alloc _ _ _⟩
end Go.Proofs.Ytciejmlhdmjajaa
namespace Go.Proofs.Ytciejmlhdmjajaa
open Go.RowKit
set_option linter.unusedVariables false
set_option linter.unusedSimpArgs false

theorem heavy_ok (a : Option Addr) (n c : Nat) (raw : ByteArray) (w : World) : Calls Try.prog 8 #[.slice a n c, .string raw] w fun e w' => e = .returned (.bool (decide (600 < n) || decide (4096 < raw.size))) ∧ w' = w := by
  by_cases h1 : 600 < n
  · have h1i : 600 < (n : Int) := by omega
    go_enter Try.func8, Try.ntmps8
    go_wp2_with fail
    go_ret
    simp [h1]
  · have h1i : (n : Int) ≤ 600 := by omega
    by_cases h2 : 4096 < raw.size
    · have h2i : 4096 < (raw.size : Int) := by omega
      go_enter Try.func8, Try.ntmps8
      go_wp2_with fail
      go_ret
      simp [h2]
    · have h2i : (raw.size : Int) ≤ 4096 := by omega
      go_enter Try.func8, Try.ntmps8
      go_wp2_with fail
      go_ret
      simp [h1, h2]
      omega
theorem same_rows (g g' n c d : Nat) (F : Nat → Nat) (w : World) (hn : n ≤ 1000) (hF : ∀ i, i < n → F i < 256) (h1 : Nrow w g 5 .u8 n F) (h2 : Nrow w g' 5 .u8 n F) :
    Calls Try.prog 14 #[.slice (some ⟨g, 0, none⟩) n c, .slice (some ⟨g', 0, none⟩) n d] w fun e w' => e = .returned (.bool true) ∧ Fr [] w w' := by
  have hl : ((List.range n).map F).length = n := by simp
  have h8 : ∀ x ∈ (List.range n).map F, x < 256 := fun x hx => by
    obtain ⟨i, hi, rfl⟩ := List.mem_map.1 hx
    exact hF i (List.mem_range.1 hi)
  have h := same_lens (some ⟨g, 0, none⟩) (some ⟨g', 0, none⟩) c d _ _ w (nrow_sl h1) (nrow_sl h2) (by rw [hl]; omega) (by rw [hl]; omega) h8 h8
  rw [hl] at h
  refine h.mono fun e w' ⟨k1, k2⟩ => ⟨?_, k2⟩
  rw [k1]
  simp
theorem order_nrow {w : World} {g : Nat} (h : w.heap[g]? = some (.cells orderC 5 (0, 0))) : Nrow w g 5 .u8 19 (fun i => orderL.getD i 0) := by
  unfold Nrow
  rw [h]
  rfl
def codesO (g g' n : Nat) : Obj := .cells #[.slice (some ⟨g, 0, none⟩) n n, .slice (some ⟨g', 0, none⟩) 30 30] 27 (0, 0)
/-- The four codes in memory, in boxes. -/
structure CM (w : World) (B1 B2 B3 B4 g5 g6 g7 g8 : Nat) (o1 o2 : Obj) (W : World) : Prop where
  fr : Fr [] w W
  b1 : W.heap[B1]? = some o1
  b2 : W.heap[B2]? = some o2
  b3 : W.heap[B3]? = some (codesO g5 g6 288)
  b4 : W.heap[B4]? = some (codesO g7 g8 288)
  r5 : Nrow W g5 5 .u8 288 fixF
  r6 : Nrow W g6 5 .u8 30 (fun _ => 5)
  r7 : Nrow W g7 5 .u8 288 fixF
  r8 : Nrow W g8 5 .u8 30 (fun _ => 5)
theorem CM.to {w : World} {B1 B2 B3 B4 g5 g6 g7 g8 : Nat} {o1 o2 : Obj} {W W' : World} (h : CM w B1 B2 B3 B4 g5 g6 g7 g8 o1 o2 W) (f : Fr [] W W') : CM w B1 B2 B3 B4 g5 g6 g7 g8 o1 o2 W' :=
  ⟨h.fr.trans f, f.blk h.b1 (by simp), f.blk h.b2 (by simp), f.blk h.b3 (by simp), f.blk h.b4 (by simp), h.r5.to f (by simp), h.r6.to f (by simp), h.r7.to f (by simp), h.r8.to f (by simp)⟩
theorem same_none (w : World) : Calls Try.prog 14 #[.slice none 0 0, .slice none 0 0] w fun e w' => e = .returned (.bool true) ∧ Fr [] w w' := by
  have h := same_lens none none 0 0 [] [] w (fun h => absurd rfl h) (fun h => absurd rfl h) (by simp) (by simp) (by simp) (by simp)
  exact h
theorem none_cells {W : World} {B : Nat} {a b : Value} (h : W.heap[B]? = some (.cells #[a, b] 27 (0, 0))) : W.cell? ⟨B, 0, none⟩ = some a ∧ W.cell? ⟨B, 1, none⟩ = some b := by
  have c0 := cell_of h 0
  have c1 := cell_of h 1
  simpa using And.intro c0 c1
theorem codes_cells {W : World} {B g g' n : Nat} (h : W.heap[B]? = some (codesO g g' n)) : W.cell? ⟨B, 0, none⟩ = some (.slice (some ⟨g, 0, none⟩) n n) ∧ W.cell? ⟨B, 1, none⟩ = some (.slice (some ⟨g', 0, none⟩) 30 30) := by
  have c0 := cell_of h 0
  have c1 := cell_of h 1
  simpa using And.intro c0 c1
set_option maxRecDepth 100000 in
set_option maxHeartbeats 6400000 in
theorem blockCodes_walk (w : World) (a0 : Option Addr) (c0 : Nat) (x0 : List Tok) (l0 : x0.length ≤ maxLen) (s0 : SlOf Tok.enc Tok.sz w a0 x0) (o0 : ∀ x, x ∈ x0 → x.ok) :
    Calls Try.prog 3 #[.slice a0 x0.length c0] w fun e w' => e = .returned (.bool true) ∧ Below w.heap.size w w' := by
  unfold maxLen at l0
  have HW := Lib.hid works13
  have HH := Lib.hid (heavy_ok a0 x0.length c0)
  by_cases hbig : 600 < x0.length
  · have hb : (decide (600 < x0.length) || decide (4096 < (⟨#[]⟩ : ByteArray).size)) = true := by simp [hbig]
    clear l0 s0 o0
    go_enter Try.func3, Try.ntmps3
    go_wp2_with fail
    refine (HH.out _ _).mono ?_
    rintro e w1 ⟨rfl, rfl⟩
    rw [hb]
    clear hb hbig
    go_wp2_with fail
    refine (HW.out _).mono ?_
    rintro e w4 ⟨rfl, f4⟩
    have F4 := Lib.hid f4
    clear f4
    go_wp2_with fail
    go_ret
    exact ⟨rfl, F4.out.below⟩
  · have hb : (decide (600 < x0.length) || decide (4096 < (⟨#[]⟩ : ByteArray).size)) = false := by simp [hbig, ByteArray.size]
    have HB := Lib.hid (And.intro s0 (And.intro o0 (show x0.length ≤ 600 by omega)))
    clear l0 s0 o0
    by_cases hm : ∀ t ∈ x0, t.may = true
    · have CA := Lib.hid (fun W (f : Fr [] w W) => best_ok a0 c0 x0 W (HB.out.1.fr0 f) (by have := HB.out.2.2; omega) HB.out.2.1 hm)
      have CB := Lib.hid (fun W (f : Fr [] w W) => refBest_ok a0 c0 x0 W (HB.out.1.fr0 f) (by have := HB.out.2.2; omega) HB.out.2.1 hm)
      have CC := Lib.hid (fun W => fixed_ok W)
      have CD := Lib.hid (fun W => refFixed_ok W)
      have HR := Lib.hid (And.intro (fun W g g' c d => same_rows g g' 288 c d fixF W (by omega) (fun i _ => by have := (fixF_le i).2; omega)) (And.intro (fun W g g' c d => same_rows g g' 30 c d (fun _ => 5) W (by omega) (fun i _ => by omega)) (fun W g g' c d => same_rows g g' 19 c d (fun i => orderL.getD i 0) W (by omega) (by decide))))
      go_enter Try.func3, Try.ntmps3
      go_wp2_with fail
      refine (HH.out _ _).mono ?_
      rintro e w1 ⟨rfl, hw1⟩
      replace hw1 := hw1.symm
      subst hw1
      rw [hb]
      clear hb hbig hm
      go_wp2_with fail
      refine (CA.out _ (Fr.refl _ _)).mono ?_
      rintro e w2 ⟨g1, g2, rfl, _, _, r1, r2, f2⟩
      have R2 := Lib.hid (And.intro f2 (And.intro r1 r2))
      clear f2 r1 r2
      go_wp2_with fail
      refine (CB.out _ (R2.out.1.trans (Fr.alloc _ _ _))).mono ?_
      rintro e w3 ⟨g3, g4, rfl, r3, r4, f3⟩
      have f23 : Fr [] w2 w3 := (Fr.alloc _ _ _).trans f3
      have q1 := R2.out.2.1.to f23 (by simp)
      have q2 := R2.out.2.2.to f23 (by simp)
      have R3 := Lib.hid (And.intro (R2.out.1.trans f23) (f3.blk (alloc_last w2 (.cells #[.slice (some ⟨g1, 0, none⟩) 286 286, .slice (some ⟨g2, 0, none⟩) 30 30] 27)) (by simp)))
      have E12 : Hid (∀ W, Fr [] w3 W → Calls Try.prog 14 #[.slice (some ⟨g1, 0, none⟩) 286 286, .slice (some ⟨g3, 0, none⟩) 286 286] W fun e w' => e = .returned (.bool true) ∧ Fr [] W w') := Lib.hid fun W f => same_rows g1 g3 286 286 286 _ W (by omega) (fun i _ => by have := bestF_le false 286 (by omega) (symsL x0) i; omega) (q1.to f (by simp)) (r3.to f (by simp))
      have E34 : Hid (∀ W, Fr [] w3 W → Calls Try.prog 14 #[.slice (some ⟨g2, 0, none⟩) 30 30, .slice (some ⟨g4, 0, none⟩) 30 30] W fun e w' => e = .returned (.bool true) ∧ Fr [] W w') := Lib.hid fun W f => same_rows g2 g4 30 30 30 _ W (by omega) (fun i _ => by have := bestF_le true 30 (by omega) (symsL x0) i; omega) (q2.to f (by simp)) (r4.to f (by simp))
      clear f3 r3 r4 f23 q1 q2
      go_wp2_with fail
      refine (CC.out _).mono ?_
      rintro e w4 ⟨g5, g6, rfl, _, _, r5, r6, f4⟩
      have f34 : Fr [] w3 w4 := (Fr.alloc _ _ _).trans f4
      have R4 := Lib.hid (And.intro (R3.out.1.trans f34) (And.intro (f34.blk R3.out.2 (by simp)) (And.intro (f4.blk (alloc_last w3 (.cells #[.slice (some ⟨g3, 0, none⟩) 286 286, .slice (some ⟨g4, 0, none⟩) 30 30] 27)) (by simp)) (And.intro r5 (And.intro r6 f34)))))
      clear f4 r5 r6 f34
      go_wp2_with fail
      refine (CD.out _).mono ?_
      rintro e w5 ⟨g7, g8, rfl, _, _, r7, r8, f5⟩
      have fa := Fr.alloc [] w5 (.cells #[.slice (some ⟨g5, 0, none⟩) 288 288, .slice (some ⟨g6, 0, none⟩) 30 30] 27)
      have fb := Fr.alloc [] (w5.alloc (.cells #[.slice (some ⟨g5, 0, none⟩) 288 288, .slice (some ⟨g6, 0, none⟩) 30 30] 27)) (.cells #[.slice (some ⟨g7, 0, none⟩) 288 288, .slice (some ⟨g8, 0, none⟩) 30 30] 27)
      have M5 := Lib.hid (show CM w w2.heap.size w3.heap.size w5.heap.size (w5.heap.size + 1) g5 g6 g7 g8 (.cells #[.slice (some ⟨g1, 0, none⟩) 286 286, .slice (some ⟨g2, 0, none⟩) 30 30] 27) (.cells #[.slice (some ⟨g3, 0, none⟩) 286 286, .slice (some ⟨g4, 0, none⟩) 30 30] 27) ((w5.alloc (.cells #[.slice (some ⟨g5, 0, none⟩) 288 288, .slice (some ⟨g6, 0, none⟩) 30 30] 27)).alloc (.cells #[.slice (some ⟨g7, 0, none⟩) 288 288, .slice (some ⟨g8, 0, none⟩) 30 30] 27)) from
        let ⟨a1, a6, a7, a8, a9, _⟩ := R4.out
        have xb := alloc_last (w5.alloc (.cells #[.slice (some ⟨g5, 0, none⟩) 288 288, .slice (some ⟨g6, 0, none⟩) 30 30] 27)) (.cells #[.slice (some ⟨g7, 0, none⟩) 288 288, .slice (some ⟨g8, 0, none⟩) 30 30] 27)
        have fc := (f5.trans fa).trans fb
        ⟨a1.trans fc, fc.blk a6 (by simp), fc.blk a7 (by simp), fb.blk (alloc_last w5 _) (by simp), by rw [World.size_alloc] at xb; exact xb, a8.to fc (by simp), a9.to fc (by simp), (r7.to fa (by simp)).to fb (by simp), (r8.to fa (by simp)).to fb (by simp)⟩)
      have F5 := Lib.hid (((R4.out.2.2.2.2.2.trans f5).trans fa).trans fb)
      clear R2 R3 R4 r7 r8 f5 CA CB CC CD fa fb
      generalize w2.heap.size = B1 at *
      generalize w3.heap.size = B2 at *
      obtain ⟨d10, d11⟩ := none_cells M5.out.b1
      obtain ⟨d20, d21⟩ := none_cells M5.out.b2
      go_wp2_with fail
      refine (E12.out _ F5.out).mono ?_
      rintro e w6 ⟨rfl, f6⟩
      have M6 := Lib.hid (M5.out.to f6)
      have F6 := Lib.hid (F5.out.trans f6)
      obtain ⟨e10, e11⟩ := none_cells M6.out.b1
      obtain ⟨e20, e21⟩ := none_cells M6.out.b2
      clear f6 d10 d11 d20 d21
      go_wp2_with fail
      refine (E34.out _ F6.out).mono ?_
      rintro e w7 ⟨rfl, f7⟩
      have M7 := Lib.hid (M6.out.to f7)
      obtain ⟨h30, h31⟩ := codes_cells M7.out.b3
      obtain ⟨h40, h41⟩ := codes_cells M7.out.b4
      clear f7 e10 e11 e20 e21 M5 M6 F5 F6
      go_wp2_with fail
      refine (HR.out.1 _ _ _ _ _ M7.out.r5 M7.out.r7).mono ?_
      rintro e w8 ⟨rfl, f8⟩
      have M8 := Lib.hid (M7.out.to f8)
      obtain ⟨i30, i31⟩ := codes_cells M8.out.b3
      obtain ⟨i40, i41⟩ := codes_cells M8.out.b4
      clear f8 h30 h31 h40 h41 M7
      go_wp2_with fail
      refine (HR.out.2.1 _ _ _ _ _ M8.out.r6 M8.out.r8).mono ?_
      rintro e w9 ⟨rfl, f9⟩
      have M9 := Lib.hid (M8.out.fr.trans f9)
      clear f9 i30 i31 i40 i41 M8
      go_wp2_with fail
      refine (order_ok _).mono ?_
      rintro e w10 ⟨rfl, q10, f10⟩
      have N10 := Lib.hid (And.intro (order_nrow q10) (M9.out.trans f10))
      clear q10 f10 M9
      go_wp2_with fail
      refine (refOrder_ok _).mono ?_
      rintro e w11 ⟨rfl, q11, f11⟩
      have N11 := Lib.hid (And.intro (N10.out.1.to f11 (by simp)) (And.intro (order_nrow q11) (N10.out.2.trans f11)))
      clear q11 f11 N10
      go_wp2_with fail
      refine (HR.out.2.2 _ _ _ _ _ N11.out.1 N11.out.2.1).mono ?_
      rintro e w12 ⟨rfl, f12⟩
      have N12 := Lib.hid (N11.out.2.2.trans f12)
      clear f12 N11
      go_wp2_with fail
      refine (HW.out _).mono ?_
      rintro e w13 ⟨rfl, f13⟩
      have F13 := Lib.hid (N12.out.trans f13)
      clear f13
      go_wp2_with fail
      go_ret
      exact ⟨rfl, F13.out.below⟩
    · have hm2 : x0.all Tok.may = false := by
        cases h : x0.all Tok.may with
        | false => rfl
        | true => exact absurd (List.all_eq_true.1 h) hm
      have CA := Lib.hid (fun W (f : Fr [] w W) => best_no a0 c0 x0 W (HB.out.1.fr0 f) (by have := HB.out.2.2; omega) HB.out.2.1 hm2)
      have CB := Lib.hid (fun W (f : Fr [] w W) => refBest_no a0 c0 x0 W (HB.out.1.fr0 f) (by have := HB.out.2.2; omega) HB.out.2.1 hm2)
      clear hm2
      have CC := Lib.hid (fun W => fixed_ok W)
      have CD := Lib.hid (fun W => refFixed_ok W)
      have HR := Lib.hid (And.intro (fun W g g' c d => same_rows g g' 288 c d fixF W (by omega) (fun i _ => by have := (fixF_le i).2; omega)) (And.intro (fun W g g' c d => same_rows g g' 30 c d (fun _ => 5) W (by omega) (fun i _ => by omega)) (fun W g g' c d => same_rows g g' 19 c d (fun i => orderL.getD i 0) W (by omega) (by decide))))
      go_enter Try.func3, Try.ntmps3
      go_wp2_with fail
      refine (HH.out _ _).mono ?_
      rintro e w1 ⟨rfl, hw1⟩
      replace hw1 := hw1.symm
      subst hw1
      rw [hb]
      clear hb hbig hm
      go_wp2_with fail
      refine (CA.out _ (Fr.refl _ _)).mono ?_
      rintro e w2 ⟨rfl, f2⟩
      have R2 := Lib.hid (And.intro f2 True.intro)
      clear f2
      go_wp2_with fail
      refine (CB.out _ (R2.out.1.trans (Fr.alloc _ _ _))).mono ?_
      rintro e w3 ⟨rfl, f3⟩
      have R3 := Lib.hid (And.intro ((R2.out.1.trans (Fr.alloc _ _ _)).trans f3) (f3.blk (alloc_last w2 (.cells #[.slice none 0 0, .slice none 0 0] 27)) (by simp)))
      have E12 : Hid (∀ W, Fr [] w3 W → Calls Try.prog 14 #[.slice none 0 0, .slice none 0 0] W fun e w' => e = .returned (.bool true) ∧ Fr [] W w') := Lib.hid fun W _ => same_none W
      have E34 : Hid (∀ W, Fr [] w3 W → Calls Try.prog 14 #[.slice none 0 0, .slice none 0 0] W fun e w' => e = .returned (.bool true) ∧ Fr [] W w') := Lib.hid fun W _ => same_none W
      clear f3
      go_wp2_with fail
      refine (CC.out _).mono ?_
      rintro e w4 ⟨g5, g6, rfl, _, _, r5, r6, f4⟩
      have f34 : Fr [] w3 w4 := (Fr.alloc _ _ _).trans f4
      have R4 := Lib.hid (And.intro (R3.out.1.trans f34) (And.intro (f34.blk R3.out.2 (by simp)) (And.intro (f4.blk (alloc_last w3 (.cells #[.slice none 0 0, .slice none 0 0] 27)) (by simp)) (And.intro r5 (And.intro r6 f34)))))
      clear f4 r5 r6 f34
      go_wp2_with fail
      refine (CD.out _).mono ?_
      rintro e w5 ⟨g7, g8, rfl, _, _, r7, r8, f5⟩
      have fa := Fr.alloc [] w5 (.cells #[.slice (some ⟨g5, 0, none⟩) 288 288, .slice (some ⟨g6, 0, none⟩) 30 30] 27)
      have fb := Fr.alloc [] (w5.alloc (.cells #[.slice (some ⟨g5, 0, none⟩) 288 288, .slice (some ⟨g6, 0, none⟩) 30 30] 27)) (.cells #[.slice (some ⟨g7, 0, none⟩) 288 288, .slice (some ⟨g8, 0, none⟩) 30 30] 27)
      have M5 := Lib.hid (show CM w w2.heap.size w3.heap.size w5.heap.size (w5.heap.size + 1) g5 g6 g7 g8 (.cells #[.slice none 0 0, .slice none 0 0] 27) (.cells #[.slice none 0 0, .slice none 0 0] 27) ((w5.alloc (.cells #[.slice (some ⟨g5, 0, none⟩) 288 288, .slice (some ⟨g6, 0, none⟩) 30 30] 27)).alloc (.cells #[.slice (some ⟨g7, 0, none⟩) 288 288, .slice (some ⟨g8, 0, none⟩) 30 30] 27)) from
        let ⟨a1, a6, a7, a8, a9, _⟩ := R4.out
        have xb := alloc_last (w5.alloc (.cells #[.slice (some ⟨g5, 0, none⟩) 288 288, .slice (some ⟨g6, 0, none⟩) 30 30] 27)) (.cells #[.slice (some ⟨g7, 0, none⟩) 288 288, .slice (some ⟨g8, 0, none⟩) 30 30] 27)
        have fc := (f5.trans fa).trans fb
        ⟨a1.trans fc, fc.blk a6 (by simp), fc.blk a7 (by simp), fb.blk (alloc_last w5 _) (by simp), by rw [World.size_alloc] at xb; exact xb, a8.to fc (by simp), a9.to fc (by simp), (r7.to fa (by simp)).to fb (by simp), (r8.to fa (by simp)).to fb (by simp)⟩)
      have F5 := Lib.hid (((R4.out.2.2.2.2.2.trans f5).trans fa).trans fb)
      clear R2 R3 R4 r7 r8 f5 CA CB CC CD fa fb
      generalize w2.heap.size = B1 at *
      generalize w3.heap.size = B2 at *
      obtain ⟨d10, d11⟩ := none_cells M5.out.b1
      obtain ⟨d20, d21⟩ := none_cells M5.out.b2
      go_wp2_with fail
      refine (E12.out _ F5.out).mono ?_
      rintro e w6 ⟨rfl, f6⟩
      have M6 := Lib.hid (M5.out.to f6)
      have F6 := Lib.hid (F5.out.trans f6)
      obtain ⟨e10, e11⟩ := none_cells M6.out.b1
      obtain ⟨e20, e21⟩ := none_cells M6.out.b2
      clear f6 d10 d11 d20 d21
      go_wp2_with fail
      refine (E34.out _ F6.out).mono ?_
      rintro e w7 ⟨rfl, f7⟩
      have M7 := Lib.hid (M6.out.to f7)
      obtain ⟨h30, h31⟩ := codes_cells M7.out.b3
      obtain ⟨h40, h41⟩ := codes_cells M7.out.b4
      clear f7 e10 e11 e20 e21 M5 M6 F5 F6
      go_wp2_with fail
      refine (HR.out.1 _ _ _ _ _ M7.out.r5 M7.out.r7).mono ?_
      rintro e w8 ⟨rfl, f8⟩
      have M8 := Lib.hid (M7.out.to f8)
      obtain ⟨i30, i31⟩ := codes_cells M8.out.b3
      obtain ⟨i40, i41⟩ := codes_cells M8.out.b4
      clear f8 h30 h31 h40 h41 M7
      go_wp2_with fail
      refine (HR.out.2.1 _ _ _ _ _ M8.out.r6 M8.out.r8).mono ?_
      rintro e w9 ⟨rfl, f9⟩
      have M9 := Lib.hid (M8.out.fr.trans f9)
      clear f9 i30 i31 i40 i41 M8
      go_wp2_with fail
      refine (order_ok _).mono ?_
      rintro e w10 ⟨rfl, q10, f10⟩
      have N10 := Lib.hid (And.intro (order_nrow q10) (M9.out.trans f10))
      clear q10 f10 M9
      go_wp2_with fail
      refine (refOrder_ok _).mono ?_
      rintro e w11 ⟨rfl, q11, f11⟩
      have N11 := Lib.hid (And.intro (N10.out.1.to f11 (by simp)) (And.intro (order_nrow q11) (N10.out.2.trans f11)))
      clear q11 f11 N10
      go_wp2_with fail
      refine (HR.out.2.2 _ _ _ _ _ N11.out.1 N11.out.2.1).mono ?_
      rintro e w12 ⟨rfl, f12⟩
      have N12 := Lib.hid (N11.out.2.2.trans f12)
      clear f12 N11
      go_wp2_with fail
      refine (HW.out _).mono ?_
      rintro e w13 ⟨rfl, f13⟩
      have F13 := Lib.hid (N12.out.trans f13)
      clear f13
      go_wp2_with fail
      go_ret
      exact ⟨rfl, F13.out.below⟩
end Go.Proofs.Ytciejmlhdmjajaa

