/- How many cells, as the document has it: platenref07's (*Table).Cells. -/
import Derived.Test.YtmnipgmheapfbaaIg
import Derived.Test.YtmnipgmheapfbaaHg
import Derived.IntWalk
namespace Go.Proofs.Ytmnipgmheapfbaa
open Go.RowKit
set_option linter.unusedVariables false
set_option linter.unusedSimpArgs false

set_option maxRecDepth 2000000 in
set_option maxHeartbeats 6400000 in
theorem rcells_any (tb : Nat) (l : List Nat) (F : Nat) (w : World) (hR : Rt w tb l F) (hf : Fine l) (hl : l.length ≤ 320) (hF : F ≤ 15) :
    Calls Try.prog 17 #[.pointer (some ⟨tb, 0, none⟩)] w fun e w' => e = .returned (.int .i64 (cellsN l F : Int)) ∧ Fr [] w w' := by
  obtain ⟨g, hT, hP⟩ := hR
  have hgl := lt_of hP
  have HT := Lib.hid (And.intro hT (And.intro hP (And.intro hf hl)))
  have hli : (l.length : Int) ≤ 320 := by omega
  have hFi : (F : Int) ≤ 15 := by omega
  have hp1 : 2 ^ F ≤ 2 ^ 15 := Nat.pow_le_pow_right (by decide) hF
  obtain ⟨p, hp⟩ : ∃ p, 2 ^ F = p := ⟨_, rfl⟩
  have e2 : (2 : Int) ^ F = (p : Int) := by rw [← hp]; simp
  rw [hp] at hp1
  have hpi : (p : Int) ≤ 32768 := by omega
  have HP := Lib.hid hp
  have t1 := cell_of hT 1
  simp only [List.size_toArray, List.getElem?_toArray, List.getElem?_cons_zero, List.getElem?_cons_succ] at t1
  clear hT hP hf hl hp hp1
  go_enter Try.func17, Try.ntmps17
  go_wp2_with fail
  go_loopw [3, 4] (fun n ro wr => ∃ r : Nat, r ≤ p ∧ ro = .int .i64 (r : Int) ∧ n = .int .i64 ((p + sumTo (rowN l F) r : Nat) : Int) ∧ Fr [] w wr) (fun _ ro _ => p - (intOf ro).toNat)
  case atStart => exact ⟨0, Nat.zero_le _, rfl, rfl, Fr.refl _ _⟩
  case round =>
    obtain ⟨r, hr, rfl, rfl, hf⟩ := hrel
    have t1 := cell_of (hf.blk HT.out.1 (by simp)) 1
    simp only [List.size_toArray, List.getElem?_toArray, List.getElem?_cons_zero, List.getElem?_cons_succ] at t1
    have hsum := sumTo_le (rowN l F) 32768 r (fun k _ => by
      have hl15 := lng_le l F l.length k HT.out.2.2.1.le
      have hs15 : 2 ^ lng l F l.length k ≤ 2 ^ 15 := Nat.pow_le_pow_right (by decide) (by omega)
      unfold rowN
      split
      · omega
      · omega)
    have hss : sumTo (rowN l F) (r + 1) = sumTo (rowN l F) r + rowN l F r := rfl
    obtain ⟨n0, hn0⟩ : ∃ n0, p + sumTo (rowN l F) r = n0 := ⟨_, rfl⟩
    have hn0i : (n0 : Int) ≤ 2000000000 := by omega
    have hss2 : p + sumTo (rowN l F) (r + 1) = n0 + rowN l F r := by omega
    rw [hn0]
    by_cases hrp : r < p
    · have hri : (r : Int) < (p : Int) := by omega
      have HF := Lib.hid (And.intro hf hss2)
      clear hf hsum hss hss2 hn0
      go_wp2_with fail
      obtain ⟨wa, hwa⟩ : ∃ wa, wa = wr := ⟨wr, rfl⟩
      subst hwa
      go_loopw [5, 6] (fun lo i wr => ∃ j : Nat, j ≤ l.length ∧ i = .int .i64 (j : Int) ∧ lo = .int .i64 (lng l F j r : Int) ∧ Fr [] wa wr) (fun _ i _ => l.length - (intOf i).toNat)
      case atStart => exact ⟨0, Nat.zero_le _, rfl, rfl, Fr.refl _ _⟩
      case round =>
        obtain ⟨j, hj, rfl, rfl, hf⟩ := hrel
        have hf1 := HF.out.1.trans hf
        have t0 := cell_of (hf1.blk HT.out.1 (by simp)) 0
        have t1 := cell_of (hf1.blk HT.out.1 (by simp)) 1
        simp only [List.size_toArray, List.getElem?_toArray, List.getElem?_cons_zero, List.getElem?_cons_succ] at t0 t1
        have hl15 := lng_le l F j r HT.out.2.2.1.le
        obtain ⟨lo, hlo⟩ : ∃ lo, lng l F j r = lo := ⟨_, rfl⟩
        rw [hlo] at hl15 ⊢
        have hloi : (lo : Int) ≤ 15 := by omega
        by_cases hjl : j < l.length
        · have hji : (j : Int) < (l.length : Int) := by omega
          obtain ⟨cx, hcx⟩ : ∃ x, (codeP l j).1 = x := ⟨_, rfl⟩
          obtain ⟨z, hz⟩ : ∃ y, (codeP l j).2 = y := ⟨_, rfl⟩
          have e0 := (HT.out.2.1.to hf1 (by simp)).cell cd_len j 0 hjl (by omega)
          have e1 := (HT.out.2.1.to hf1 (by simp)).cell cd_len j 1 hjl (by omega)
          simp only [Cd, List.getElem?_cons_zero, List.getElem?_cons_succ, Nat.add_zero] at e0 e1
          rw [hcx] at e0
          rw [hz] at e1
          have hcle : cx ≤ 32767 := by have := codeP_le HT.out.2.2.1 j; omega
          have hzg : l.getD j 0 = z := by rw [← hz, codeP_size]
          have hzle : z ≤ 15 := by have := getD_le HT.out.2.2.1.le j; omega
          have hzi : (z : Int) ≤ 15 := by omega
          have hci : (cx : Int) ≤ 32767 := by omega
          have hgw := Nat.lt_of_lt_of_le hgl hf1.size
          have hbk := new_of wr (.cells #[.int .u32 (cx : Int), .int .u8 (z : Int)] 60)
          have hfk := Fr.alloc [] wr (.cells #[.int .u32 (cx : Int), .int .u8 (z : Int)] 60)
          have hcode : 0 < z → cx = codeN l j := fun h => by rw [← hcx]; unfold codeP; rw [if_neg (by omega)]
          have hstep : lng l F (j + 1) r = if inRow l F r j then max lo (z - F) else lo := by simp only [lng]; rw [hlo, hzg]
          have HR := Lib.hid (And.intro hf (And.intro hzg (And.intro hcode (And.intro hbk (And.intro hfk hstep)))))
          clear hf hf1 hcx hz hzg hcode hbk hfk hlo hl15 hstep
          have HB1 := Lib.hid (show wr.heap.size < (wr.alloc (.cells #[.int .u32 (cx : Int), .int .u8 (z : Int)] 60)).heap.size by simp)
          have hbc := cell_of HR.out.2.2.2.1 1
          simp only [List.size_toArray, List.getElem?_toArray, List.getElem?_cons_zero, List.getElem?_cons_succ] at hbc
          go_wp2_with fail
          have t1' := cell_of (HR.out.2.2.2.2.1.blk ((HF.out.1.trans HR.out.1).blk HT.out.1 (by simp)) (by simp)) 1
          simp only [List.size_toArray, List.getElem?_toArray, List.getElem?_cons_zero, List.getElem?_cons_succ] at t1'
          obtain ⟨wh, hwh⟩ : ∃ wh, wh = wr := ⟨wr, rfl⟩
          subst hwh
          generalize wh.alloc (.cells #[.int .u32 (cx : Int), .int .u8 (z : Int)] 60) = W1 at *
          by_cases hFz : F < z
          · have hFzi : (F : Int) < (z : Int) := by omega
            go_quiet (fail)
            have HW := Lib.hid (And.intro ((Fr.drewN [] W1 nq).blk HR.out.2.2.2.1 (by simp)) (HR.out.2.2.2.2.1.trans (Fr.drewN [] W1 nq)))
            clear hbc t1'
            generalize W1.drewN nq = W2 at *
            go_wp2_with fail
            go_loopw [8, 9] (fun fi k wq => ∃ k' : Nat, k' ≤ F ∧ k = .int .i64 (k' : Int) ∧ fi = .bool (decide (wb l j % 2 ^ k' = r % 2 ^ k')) ∧ wq.heap[wh.heap.size]? = some (.cells #[.int .u32 (cx : Int), .int .u8 (z : Int)] 60 (0, 0)) ∧ Fr [] wh wq) (fun _ k _ => 20 - (intOf k).toNat)
            case atStart => exact ⟨0, Nat.zero_le _, rfl, by simp [Nat.mod_one], HW.out.1, HW.out.2⟩
            case round =>
              obtain ⟨k, hk, rfl, rfl, hb, hfq⟩ := hrel
              have c0 := cell_of hb 0
              have c1 := cell_of hb 1
              have t1 := cell_of ((HF.out.1.trans (HR.out.1.trans hfq)).blk HT.out.1 (by simp)) 1
              simp only [List.size_toArray, List.getElem?_toArray, List.getElem?_cons_zero, List.getElem?_cons_succ] at c0 c1 t1
              have hki : (k : Int) ≤ 15 := by omega
              have HQ := Lib.hid (And.intro hb hfq)
              cases hfi : decide (wb l j % 2 ^ k = r % 2 ^ k) with
              | false =>
                have hno : inRow l F r j = false := by
                  unfold inRow
                  rw [decide_eq_false_iff_not] at hfi ⊢
                  rintro ⟨h1, h2⟩
                  apply hfi
                  rw [← h2, Nat.mod_mod_of_dvd _ (Nat.pow_dvd_pow 2 hk)]
                have HS := Lib.hid (by rw [HR.out.2.2.2.2.2, hno]; rfl : lng l F (j + 1) r = lo)
                clear hfi hno hb hfq
                by_cases hkF : k < F
                · have hkF' : (k : Int) < (F : Int) := by omega
                  go_wp2_with fail
                  go_roundw
                  case rel => exact ⟨j + 1, by omega, by go_num, by rw [HS.out], HR.out.1.trans HQ.out.2⟩
                  case measure => simp [intOf]; omega
                · have hkF' : (F : Int) ≤ (k : Int) := by omega
                  go_wp2_with fail
                  go_roundw
                  case rel => exact ⟨j + 1, by omega, by go_num, by rw [HS.out], HR.out.1.trans HQ.out.2⟩
                  case measure => simp [intOf]; omega
              | true =>
                by_cases hkF : k < F
                · have hkF' : (k : Int) < (F : Int) := by omega
                  rw [decide_eq_true_eq] at hfi
                  have hwb := wb_bit l j k (by rw [HR.out.2.1]; omega)
                  rw [HR.out.2.1, ← HR.out.2.2.1 (by omega)] at hwb
                  have h1 := fun W => bit05_any cx z k W (by omega) hzle (by omega)
                  have h2 := fun W => bit07_any r k W (by omega) (by omega)
                  rw [hwb] at h1
                  have hst := mod_succ_iff (wb l j) r k
                  obtain ⟨pb, hpb⟩ : ∃ p, wb l j / 2 ^ k % 2 = p := ⟨_, rfl⟩
                  obtain ⟨qb, hqb⟩ : ∃ q, r / 2 ^ k % 2 = q := ⟨_, rfl⟩
                  rw [hpb] at h1 hst
                  rw [hqb] at h2 hst
                  have hnx : decide (wb l j % 2 ^ (k + 1) = r % 2 ^ (k + 1)) = decide (pb = qb) := by
                    by_cases hpq : pb = qb
                    · rw [decide_eq_true hpq, decide_eq_true]
                      exact hst.2 ⟨hfi, hpq.symm⟩
                    · rw [decide_eq_false hpq, decide_eq_false]
                      exact fun e => hpq (hst.1 e).2.symm
                  have H1 := Lib.hid h1
                  have H2 := Lib.hid h2
                  have HN := Lib.hid hnx
                  have hint : ((pb : Int) == (qb : Int)) = decide (pb = qb) := by
                    by_cases hpq : pb = qb
                    · subst hpq; simp
                    · rw [decide_eq_false hpq]; simp; omega
                  clear hfi hwb h1 h2 hst hpb hqb hnx hb hfq
                  go_wp2_with fail
                  refine (H1.out _).mono ?_
                  rintro e w5 ⟨rfl, f5⟩
                  have HF5 := Lib.hid f5
                  clear f5
                  go_wp2_with fail
                  refine (H2.out _).mono ?_
                  rintro e w6 ⟨rfl, f6⟩
                  have HF6 := Lib.hid (HF5.out.trans f6)
                  clear f6
                  go_wp2_with fail
                  go_roundw
                  case rel => exact ⟨k + 1, by omega, by go_num, by rw [HN.out], HF6.out.blk HQ.out.1 (by simp), HQ.out.2.trans HF6.out⟩
                  case measure => simp [intOf]; omega
                · have hke : k = F := by omega
                  subst hke
                  have hin : inRow l k r j = true := by
                    unfold inRow
                    rw [decide_eq_true_eq] at hfi ⊢
                    rw [HR.out.2.1, hfi, HP.out, Nat.mod_eq_of_lt hrp]
                    exact ⟨hFz, rfl⟩
                  obtain ⟨mx, hmx⟩ : ∃ mx, max lo (z - k) = mx := ⟨_, rfl⟩
                  have hmxi : max (lo : Int) ((z : Int) - (k : Int)) = (mx : Int) := by omega
                  have HS := Lib.hid (by rw [HR.out.2.2.2.2.2, hin, if_pos rfl, hmx] : lng l k (j + 1) r = mx)
                  have hws : IntKind.i64.wrap ((z : Int) - (k : Int)) = (z : Int) - (k : Int) := IntWalk.i64_in _ (by omega)
                  clear hfi hin hb hfq hkF hmx
                  go_wp2_with fail
                  go_quiet (fail)
                  go_wp2_with fail
                  go_roundw
                  case rel => exact ⟨j + 1, by omega, by go_num, by rw [HS.out], (HR.out.1.trans HQ.out.2).trans (Fr.drewN _ _ _)⟩
                  case measure => simp [intOf]; omega
          · have hFzi : (z : Int) ≤ (F : Int) := by omega
            go_quiet (fail)
            have HW := Lib.hid (HR.out.2.2.2.2.1.trans (Fr.drewN [] W1 nq))
            have t1 := cell_of ((HF.out.1.trans (HR.out.1.trans HW.out)).blk HT.out.1 (by simp)) 1
            simp only [List.size_toArray, List.getElem?_toArray, List.getElem?_cons_zero, List.getElem?_cons_succ] at t1
            clear hbc t1'
            generalize W1.drewN nq = W2 at *
            have hno : inRow l F r j = false := by
              unfold inRow
              rw [HR.out.2.1, decide_eq_false (fun e => hFz e.1)]
            have HS := Lib.hid (by rw [HR.out.2.2.2.2.2, hno]; rfl : lng l F (j + 1) r = lo)
            clear hno
            go_wp2_with fail
            go_loopw [8, 9] (fun fi k wq => k = .int .i64 0 ∧ fi = .bool false ∧ wq = W2) (fun _ _ _ => 0)
            case atStart => exact ⟨rfl, rfl, rfl⟩
            case round =>
              obtain ⟨rfl, rfl, hwq⟩ := hrel
              replace hwq := hwq.symm
              subst hwq
              by_cases hF0 : 0 < (F : Int)
              · go_wp2_with fail
                go_roundw
                case rel => exact ⟨j + 1, by omega, by go_num, by rw [HS.out], HR.out.1.trans HW.out⟩
                case measure => simp [intOf]; omega
              · go_wp2_with fail
                go_roundw
                case rel => exact ⟨j + 1, by omega, by go_num, by rw [HS.out], HR.out.1.trans HW.out⟩
                case measure => simp [intOf]; omega
        · have hje : j = l.length := by omega
          subst hje
          have hrow : rowN l F r = if lo = 0 then 0 else 2 ^ lo := by unfold rowN; rw [hlo]
          have HQ := Lib.hid (And.intro hf1 hrow)
          clear hf hf1 hlo hl15 hrow
          by_cases hl0 : lo = 0
          · subst hl0
            go_wp2_with fail
            go_roundw
            case rel => exact ⟨r + 1, by omega, by go_num, by rw [HF.out.2, HQ.out.2, if_pos rfl]; rfl, HQ.out.1⟩
            case measure => simp [intOf]; omega
          · have hl1 : 0 < (lo : Int) := by omega
            obtain ⟨q, hq⟩ : ∃ q, 2 ^ lo = q := ⟨_, rfl⟩
            have hq15 : 2 ^ lo ≤ 2 ^ 15 := Nat.pow_le_pow_right (by decide) (by omega)
            have e3 : (2 : Int) ^ lo = (q : Int) := by rw [← hq]; simp
            have hqi : (q : Int) ≤ 32768 := by omega
            have HQ2 := Lib.hid hq
            clear hq hq15
            go_wp2_with fail
            go_roundw
            case rel => exact ⟨r + 1, by omega, by go_num, by rw [HF.out.2, HQ.out.2, if_neg hl0, HQ2.out]; go_num, HQ.out.1⟩
            case measure => simp [intOf]; omega
    · have hre : r = p := by omega
      subst hre
      have HF := Lib.hid (And.intro hf (show n0 = cellsN l F by unfold cellsN; rw [HP.out]; exact hn0.symm))
      clear hf hsum hss hss2 hn0
      go_wp2_with fail
      go_ret
      rw [← HF.out.2]
      exact ⟨rfl, HF.out.1⟩
end Go.Proofs.Ytmnipgmheapfbaa

