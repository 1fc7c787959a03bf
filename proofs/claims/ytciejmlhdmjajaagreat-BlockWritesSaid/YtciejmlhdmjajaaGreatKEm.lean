/- Package block: the fixed codes' lengths. -/
import Derived.Test.YtciejmlhdmjajaaGreatKEl
namespace Go.Proofs.YtciejmlhdmjajaaGreat
open Go.RowKit
set_option linter.unusedVariables false
set_option linter.unusedSimpArgs false

def fixF (i : Nat) : Nat := if i < 144 then 8 else if i < 256 then 9 else if i < 280 then 7 else 8
/-- Codes in memory: two rows of their own. -/
def CodesM (W : World) (b g1 g2 n : Nat) : Prop := W.heap[b]? = some (.cells #[.slice (some ⟨g1, 0, none⟩) n n, .slice (some ⟨g2, 0, none⟩) 30 30] 45 (0, 0))
def zr8 (n : Nat) : Array Value := (Lib.byteCells (List.replicate n 0)).toArray
def FixMade (w : World) (v : Value) (wx : World) : Prop :=
  ∃ b g1 g2, v = .pointer (some ⟨b, 0, none⟩) ∧ g1 ≠ g2 ∧ g1 ≠ b ∧ g2 ≠ b ∧ w.heap.size ≤ b ∧ w.heap.size ≤ g1 ∧ w.heap.size ≤ g2 ∧ CodesM wx b g1 g2 288 ∧ Nrow wx g1 5 .u8 288 (fun _ => 0) ∧ Nrow wx g2 5 .u8 30 (fun _ => 0) ∧ Fr [] w wx
theorem zr8_row (n : Nat) : zr8 n = ((List.range n).map fun j => Value.int .u8 (((fun _ => 0 : Nat → Nat) j : Nat) : Int)).toArray := by
  unfold zr8 Lib.byteCells
  congr 1
  apply List.ext_getElem
  · simp
  · intro i h1 h2; simp
theorem get_alloc (w : World) (o : Obj) (k : Nat) : (w.alloc o).heap[k]? = if k = w.heap.size then some o else w.heap[k]? := by
  show (w.heap.push o)[k]? = _
  rw [Array.getElem?_push]
theorem get_set (w : World) (b i k : Nat) (v : Value) : (w.setCell ⟨b, i, none⟩ v).heap[k]? = if k = b then (w.heap[k]?).map (fun o => match o with | .cells cs t fr => .cells (cs.setIfInBounds i v) t fr | o => o) else w.heap[k]? := by
  unfold World.setCell
  simp only [Array.getElem?_modify]
  by_cases h : k = b
  · subst h
    simp
    cases w.heap[k]? with
    | none => rfl
    | some o => cases o <;> rfl
  · simp [h, Ne.symm h]
theorem get_drew (w : World) (k : Nat) : w.drew.heap[k]? = w.heap[k]? := rfl
theorem fix_step (F : Nat → Nat) (k v : Nat) (h : F k = v) (j : Nat) : (if j < k + 1 then F j else 0) = if j = k then v else if j < k then F j else 0 := by
  by_cases h1 : j = k
  · subst h1; rw [if_pos (by omega), if_pos rfl]; exact h
  · rw [if_neg h1]
    by_cases h2 : j < k
    · rw [if_pos (by omega), if_pos h2]
    · rw [if_neg (by omega), if_neg h2]
set_option maxRecDepth 100000 in
set_option maxHeartbeats 3200000 in
theorem fixed_ok (w : World) : Calls Tryz.prog 17 #[] w fun e w' => ∃ g1 g2, e = .returned (.agg #[.slice (some ⟨g1, 0, none⟩) 288 288, .slice (some ⟨g2, 0, none⟩) 30 30]) ∧ w.heap.size ≤ g1 ∧ w.heap.size ≤ g2 ∧ Nrow w' g1 5 .u8 288 fixF ∧ Nrow w' g2 5 .u8 30 (fun _ => 5) ∧ Fr [] w w' := by
  have hm1 : ∀ W : World, (Instr.makeSlice 36 (.int .i64 288) (.int .i64 288)).run Tryz.prog W = .ok (.slice (some ⟨W.heap.size, 0, none⟩) 288 288) (W.alloc (.cells (zr8 288) 5)) := fun W => run_make_bytes W 288 (by omega)
  have hm2 : ∀ W : World, (Instr.makeSlice 36 (.int .i64 30) (.int .i64 30)).run Tryz.prog W = .ok (.slice (some ⟨W.heap.size, 0, none⟩) 30 30) (W.alloc (.cells (zr8 30) 5)) := fun W => run_make_bytes W 30 (by omega)
  go_enter Tryz.func17, Tryz.ntmps17
  go_upto_region 1 with fail
  go_cut [1] from 4 to 6 (fun v1 wx => FixMade (w.alloc (.cells #[.slice none 0 0, .slice none 0 0] 45)) v1 wx)
  case first =>
    go_wp2_with fail
    go_region
    all_goals go_wp2_with fail
    all_goals go_meet
    case rel => exact ⟨w.heap.size + 1 + 1 + 1, w.heap.size + 1, w.heap.size + 1 + 1, rfl, by omega, by omega, by omega, by simp <;> omega, by simp <;> omega, by simp <;> omega, by unfold CodesM; simp only [get_drew, get_alloc, World.size_alloc]; simp, by unfold Nrow; rw [← zr8_row]; simp only [get_drew, get_alloc, World.size_alloc]; simp, by unfold Nrow; rw [← zr8_row]; simp only [get_drew, get_alloc, World.size_alloc]; simp, (((Fr.alloc [] _ _).trans (Fr.alloc [] _ _)).trans (Fr.alloc [] _ _)).drew⟩
    case rel => exact ⟨w.heap.size + 1 + 1, w.heap.size + 1, w.heap.size + 1 + 1 + 1, rfl, by omega, by omega, by omega, by simp <;> omega, by simp <;> omega, by simp <;> omega, by unfold CodesM; simp only [get_drew, get_alloc, World.size_alloc]; simp, by unfold Nrow; rw [← zr8_row]; simp only [get_drew, get_alloc, World.size_alloc]; simp, by unfold Nrow; rw [← zr8_row]; simp only [get_drew, get_alloc, World.size_alloc]; simp, (((Fr.alloc [] _ _).trans (Fr.alloc [] _ _)).trans (Fr.alloc [] _ _)).drew⟩
    case rel => exact ⟨w.heap.size + 1 + 1 + 1, w.heap.size + 1 + 1, w.heap.size + 1, rfl, by omega, by omega, by omega, by simp <;> omega, by simp <;> omega, by simp <;> omega, by unfold CodesM; simp only [get_drew, get_alloc, World.size_alloc]; simp, by unfold Nrow; rw [← zr8_row]; simp only [get_drew, get_alloc, World.size_alloc]; simp, by unfold Nrow; rw [← zr8_row]; simp only [get_drew, get_alloc, World.size_alloc]; simp, (((Fr.alloc [] _ _).trans (Fr.alloc [] _ _)).trans (Fr.alloc [] _ _)).drew⟩
    case rel => exact ⟨w.heap.size + 1 + 1, w.heap.size + 1 + 1 + 1, w.heap.size + 1, rfl, by omega, by omega, by omega, by simp <;> omega, by simp <;> omega, by simp <;> omega, by unfold CodesM; simp only [get_drew, get_alloc, World.size_alloc]; simp, by unfold Nrow; rw [← zr8_row]; simp only [get_drew, get_alloc, World.size_alloc]; simp, by unfold Nrow; rw [← zr8_row]; simp only [get_drew, get_alloc, World.size_alloc]; simp, (((Fr.alloc [] _ _).trans (Fr.alloc [] _ _)).trans (Fr.alloc [] _ _)).drew⟩
    case rel => exact ⟨w.heap.size + 1, w.heap.size + 1 + 1, w.heap.size + 1 + 1 + 1, rfl, by omega, by omega, by omega, by simp <;> omega, by simp <;> omega, by simp <;> omega, by unfold CodesM; simp only [get_drew, get_alloc, World.size_alloc]; simp, by unfold Nrow; rw [← zr8_row]; simp only [get_drew, get_alloc, World.size_alloc]; simp, by unfold Nrow; rw [← zr8_row]; simp only [get_drew, get_alloc, World.size_alloc]; simp, (((Fr.alloc [] _ _).trans (Fr.alloc [] _ _)).trans (Fr.alloc [] _ _)).drew⟩
    case rel => exact ⟨w.heap.size + 1, w.heap.size + 1 + 1 + 1, w.heap.size + 1 + 1, rfl, by omega, by omega, by omega, by simp <;> omega, by simp <;> omega, by simp <;> omega, by unfold CodesM; simp only [get_drew, get_alloc, World.size_alloc]; simp, by unfold Nrow; rw [← zr8_row]; simp only [get_drew, get_alloc, World.size_alloc]; simp, by unfold Nrow; rw [← zr8_row]; simp only [get_drew, get_alloc, World.size_alloc]; simp, (((Fr.alloc [] _ _).trans (Fr.alloc [] _ _)).trans (Fr.alloc [] _ _)).drew⟩
  case rest =>
  obtain ⟨b, g1, g2, rfl, n1, n2, n3, hb, h1, h2, hC, hN1, hN2, hf⟩ := hcut
  have hR := hf.blk (alloc_last w _) (by simp)
  simp only [World.size_alloc] at hb h1 h2
  have HN := Lib.hid (And.intro n1 (And.intro n2 (And.intro n3 (And.intro hb (And.intro h1 (And.intro h2 (And.intro hf hR)))))))
  have c0 := cell_of hC 0
  have c1 := cell_of hC 1
  simp at c0 c1
  have HC := Lib.hid (And.intro hC (And.intro hN1 hN2))
  clear n1 n2 n3 hb h1 h2 hf hR hC hN1 hN2 hm1 hm2
  go_wp2_with fail
  go_loopw [10] (fun v10 wr => ∃ k : Nat, k ≤ 288 ∧ v10 = .int .i64 (k : Int) ∧ CodesM wr b g1 g2 288 ∧ Nrow wr g1 5 .u8 288 (fun s => if s < k then fixF s else 0) ∧ Nrow wr g2 5 .u8 30 (fun _ => 0) ∧ Fr [] (w.alloc (.cells #[.slice none 0 0, .slice none 0 0] 45)) wr) (fun v10 _ => 288 - (intOf v10).toNat)
  case atStart => exact ⟨0, by omega, rfl, HC.out.1, HC.out.2.1.congr fun _ _ => by simp, HC.out.2.2, HN.out.2.2.2.2.2.2.1⟩
  case round =>
    obtain ⟨k, hk, rfl, hC, hN1, hN2, hf⟩ := hrel
    clear c0 c1
    obtain ⟨n1, n2, n3, hb, h1, h2, _, _⟩ := HN.out
    have c0 := cell_of hC 0
    simp at c0
    by_cases hlt : k < 288
    · have hki : (k : Int) < 288 := by omega
      have z := free_of hN1 k
      have zc := hN1.cell k hlt
      have HW := Lib.hid (And.intro hC (And.intro hN1 (And.intro hN2 hf)))
      clear hC hN1 hN2 hf
      by_cases ha : k < 144
      · have hai : (k : Int) < 144 := by omega
        have HF := Lib.hid (show fixF k = 8 by unfold fixF; rw [if_pos ha])
        clear ha
        go_wp2_with fail
        go_roundw
        case rel => exact ⟨k + 1, by omega, by go_num, (Fr.setCell _ _ _ _).blk HW.out.1 (by simp; omega), by
          have s1 := HW.out.2.1.set_ (G := fun s => if s < k + 1 then fixF s else 0) k 8 (fun j hj => fix_step fixF k _ HF.out j)
          simpa using s1, HW.out.2.2.1.to (Fr.setCell _ _ _ _) (by simp; omega), (Fr.setCell _ _ _ _).outL HW.out.2.2.2 (by simp; omega)⟩
        case measure => simp [intOf]; omega
      · have hai : 144 ≤ (k : Int) := by omega
        by_cases hb2 : k < 256
        · have hbi : (k : Int) < 256 := by omega
          have hci : (k : Int) < 280 := by omega
          have HF := Lib.hid (show fixF k = 9 by unfold fixF; rw [if_neg ha, if_pos hb2])
          clear ha hb2
          go_wp2_with fail
          go_roundw
          case rel => exact ⟨k + 1, by omega, by go_num, (Fr.setCell _ _ _ _).blk HW.out.1 (by simp; omega), by
            have s1 := HW.out.2.1.set_ (G := fun s => if s < k + 1 then fixF s else 0) k 9 (fun j hj => fix_step fixF k _ HF.out j)
            simpa using s1, HW.out.2.2.1.to (Fr.setCell _ _ _ _) (by simp; omega), (Fr.setCell _ _ _ _).outL HW.out.2.2.2 (by simp; omega)⟩
          case measure => simp [intOf]; omega
        · have hbi : 256 ≤ (k : Int) := by omega
          by_cases hc2 : k < 280
          · have hci : (k : Int) < 280 := by omega
            have HF := Lib.hid (show fixF k = 7 by unfold fixF; rw [if_neg ha, if_neg hb2, if_pos hc2])
            clear ha hb2 hc2
            go_wp2_with fail
            go_roundw
            case rel => exact ⟨k + 1, by omega, by go_num, (Fr.setCell _ _ _ _).blk HW.out.1 (by simp; omega), by
              have s1 := HW.out.2.1.set_ (G := fun s => if s < k + 1 then fixF s else 0) k 7 (fun j hj => fix_step fixF k _ HF.out j)
              simpa using s1, HW.out.2.2.1.to (Fr.setCell _ _ _ _) (by simp; omega), (Fr.setCell _ _ _ _).outL HW.out.2.2.2 (by simp; omega)⟩
            case measure => simp [intOf]; omega
          · have hci : 280 ≤ (k : Int) := by omega
            have HF := Lib.hid (show fixF k = 8 by unfold fixF; rw [if_neg ha, if_neg hb2, if_neg hc2])
            clear ha hb2 hc2
            go_wp2_with fail
            go_roundw
            case rel => exact ⟨k + 1, by omega, by go_num, (Fr.setCell _ _ _ _).blk HW.out.1 (by simp; omega), by
              have s1 := HW.out.2.1.set_ (G := fun s => if s < k + 1 then fixF s else 0) k 8 (fun j hj => fix_step fixF k _ HF.out j)
              simpa using s1, HW.out.2.2.1.to (Fr.setCell _ _ _ _) (by simp; omega), (Fr.setCell _ _ _ _).outL HW.out.2.2.2 (by simp; omega)⟩
            case measure => simp [intOf]; omega
    · have hke : k = 288 := by omega
      subst hke
      have c1 := cell_of hC 1
      simp at c1
      have HW := Lib.hid (And.intro hC (And.intro (hN1.congr (G := fixF) fun j hj => by rw [if_pos hj]) (And.intro hN2 hf)))
      clear hC hN1 hN2 hf
      go_wp2_with fail
      clear c0 c1
      go_loopw [37] (fun v10 wr => ∃ k : Nat, k ≤ 30 ∧ v10 = .int .i64 (k : Int) ∧ CodesM wr b g1 g2 288 ∧ Nrow wr g1 5 .u8 288 fixF ∧ Nrow wr g2 5 .u8 30 (fun s => if s < k then 5 else 0) ∧ Fr [] (w.alloc (.cells #[.slice none 0 0, .slice none 0 0] 45)) wr) (fun v10 _ => 30 - (intOf v10).toNat)
      case atStart => exact ⟨0, by omega, rfl, HW.out.1, HW.out.2.1, HW.out.2.2.1.congr fun _ _ => by simp, HW.out.2.2.2⟩
      case round =>
        obtain ⟨k, hk, rfl, hC, hN1, hN2, hf⟩ := hrel
        have c1 := cell_of hC 1
        simp at c1
        by_cases hlt : k < 30
        · have hki : (k : Int) < 30 := by omega
          have z := free_of hN2 k
          have zc := hN2.cell k hlt
          have HW := Lib.hid (And.intro hC (And.intro hN1 (And.intro hN2 hf)))
          clear hC hN1 hN2 hf
          go_wp2_with fail
          go_roundw
          case rel => exact ⟨k + 1, by omega, by go_num, (Fr.setCell _ _ _ _).blk HW.out.1 (by simp; omega), HW.out.2.1.to (Fr.setCell _ _ _ _) (by simp; omega), by
            have s1 := HW.out.2.2.1.set_ (G := fun s => if s < k + 1 then 5 else 0) k 5 (fun j hj => fix_step (fun _ => 5) k 5 rfl j)
            simpa using s1, (Fr.setCell _ _ _ _).outL HW.out.2.2.2 (by simp; omega)⟩
          case measure => simp [intOf]; omega
        · have hke : k = 30 := by omega
          subst hke
          have c0 := cell_of hC 0
          simp at c0
          have hR := hf.blk (alloc_last w _) (by simp)
          have r0 := cell_of hR 0
          have r1 := cell_of hR 1
          have fr0 := free_of hR 0
          have fr1 := free_of hR 1
          simp at r0 r1
          have HW := Lib.hid (And.intro hR (And.intro hN1 (And.intro (hN2.congr (G := fun _ => 5) fun j hj => by rw [if_pos hj]) hf)))
          clear hC hN1 hN2 hf hR
          go_wp2_with fail
          obtain ⟨hR, hN1, hN2, hf⟩ := HW.out
          have fs1 := Fr.setCell wr w.heap.size 0 (.slice (some ⟨g1, 0, none⟩) 288 288)
          have s1 := set_of hR 0 (.slice (some ⟨g1, 0, none⟩) 288 288)
          have fs2 := Fr.setCell (wr.setCell ⟨w.heap.size, 0, none⟩ (.slice (some ⟨g1, 0, none⟩) 288 288)) w.heap.size 1 (.slice (some ⟨g2, 0, none⟩) 30 30)
          have s2 := set_of s1 1 (.slice (some ⟨g2, 0, none⟩) 30 30)
          have fs := fs1.trans fs2
          have e1 : ((#[Value.slice none 0 0, Value.slice none 0 0] : Array Value).setIfInBounds 0 (.slice (some ⟨g1, 0, none⟩) 288 288)).setIfInBounds 1 (.slice (some ⟨g2, 0, none⟩) 30 30) = #[.slice (some ⟨g1, 0, none⟩) 288 288, .slice (some ⟨g2, 0, none⟩) 30 30] := by simp
          rw [e1] at s2
          (try simp only [Exit.inBlock, Exit.then])
          refine bodyPost_ret (results_cell_row rfl _ _ w.heap.size 45 _ _ _ rfl s2 Tryz.underlying45 rfl (by kernel_rfl)) rfl ?_
          refine ⟨g1, g2, rfl, by omega, by omega, hN1.to fs (by simp; omega), hN2.to fs (by simp; omega), fs.outL ((Fr.alloc [] _ _).trans hf) (by simp)⟩
end Go.Proofs.YtciejmlhdmjajaaGreat

