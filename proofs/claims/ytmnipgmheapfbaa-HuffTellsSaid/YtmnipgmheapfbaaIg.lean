/- What bits begin with, as the document has it: platenref07's (*Table).Look. -/
import Derived.Test.YtmnipgmheapfbaaIf
import Derived.Test.YtmnipgmheapfbaaHb
namespace Go.Proofs.Ytmnipgmheapfbaa
open Go.RowKit
set_option linter.unusedVariables false
set_option linter.unusedSimpArgs false

theorem mod_succ_iff (x y k : Nat) : x % 2 ^ (k + 1) = y % 2 ^ (k + 1) ↔ x % 2 ^ k = y % 2 ^ k ∧ y / 2 ^ k % 2 = x / 2 ^ k % 2 := by
  rw [Nat.pow_succ, Nat.mod_mul, Nat.mod_mul]
  have hp : 0 < 2 ^ k := Nat.pow_pos (by decide)
  have h1 := Nat.mod_lt x hp
  have h2 := Nat.mod_lt y hp
  have h3 := Nat.mod_lt (x / 2 ^ k) (show 0 < 2 by decide)
  have h4 := Nat.mod_lt (y / 2 ^ k) (show 0 < 2 by decide)
  generalize x / 2 ^ k % 2 = a at *
  generalize y / 2 ^ k % 2 = b at *
  generalize x % 2 ^ k = c at *
  generalize y % 2 ^ k = d at *
  generalize 2 ^ k = p at *
  rcases (show a = 0 ∨ a = 1 by omega) with rfl | rfl <;> rcases (show b = 0 ∨ b = 1 by omega) with rfl | rfl <;> constructor <;> intro h <;> (try simp at h ⊢) <;> omega
theorem wb_bit (l : List Nat) (s k : Nat) (hk : k < l.getD s 0) : codeN l s / 2 ^ (l.getD s 0 - 1 - k) % 2 = wb l s / 2 ^ k % 2 := by
  have h := turnN_succ (codeN l s) k (l.getD s 0) hk
  unfold wb
  omega
theorem look_hit (l : List Nat) (x m j : Nat) (hj : j < l.length) (hp : pfit l x m j = true) (hz : l.getD j 0 ≤ m) (hno : ∀ s, s < j → (pfit l x m s && decide (l.getD s 0 ≤ m)) = false) : lookR l x m = (j, l.getD j 0, 0) := by
  unfold lookR
  have : (List.range l.length).find? (fun s => pfit l x m s && decide (l.getD s 0 ≤ m)) = some j := by
    rw [List.find?_range_eq_some]
    refine ⟨by rw [hp, decide_eq_true hz]; rfl, List.mem_range.2 hj, fun s hs => by rw [hno s hs]; rfl⟩
  rw [this]
theorem look_no (l : List Nat) (x m : Nat) (hno : ∀ s, s < l.length → (pfit l x m s && decide (l.getD s 0 ≤ m)) = false) : lookR l x m = if (List.range l.length).any (pfit l x m) then (0, 0, 6) else (0, 0, 7) := by
  unfold lookR
  have : (List.range l.length).find? (fun s => pfit l x m s && decide (l.getD s 0 ≤ m)) = none := by
    rw [List.find?_eq_none]
    intro s hs
    rw [hno s (List.mem_range.1 hs)]
    simp
  rw [this]
theorem any_succ (p : Nat → Bool) (j : Nat) : (List.range (j + 1)).any p = ((List.range j).any p || p j) := by
  rw [List.range_succ, List.any_append]; simp

set_option maxRecDepth 2000000 in
set_option maxHeartbeats 3200000 in
theorem rlook_arg (tb : Nat) (x h : Int) (w : World) (hh : h < 0) : Calls Try.prog 15 #[.pointer (some ⟨tb, 0, none⟩), .int .u64 x, .int .i64 h] w fun e w' => e = .returned (.tuple #[.int .i64 0, .int .i64 0, .int .i64 2]) ∧ Fr [] w w' := by
  go_enter Try.func15, Try.ntmps15
  go_wp2_with fail
  refine bodyPost_ret (v := .tuple #[.int .i64 0, .int .i64 0, .int .i64 2]) (by simp [results, Try.results15, go_sem]) rfl ⟨rfl, Fr.refl _ _⟩

set_option maxRecDepth 2000000 in
set_option maxHeartbeats 6400000 in
theorem rlook_any (tb : Nat) (l : List Nat) (F x : Nat) (h : Int) (w : World) (hR : Rt w tb l F) (hf : Fine l) (hl : l.length ≤ 320) (hx : x < 18446744073709551616) (hh : 0 ≤ h) (hh1 : h ≤ 9223372036854775807) :
    Calls Try.prog 15 #[.pointer (some ⟨tb, 0, none⟩), .int .u64 (x : Int), .int .i64 h] w fun e w' => e = .returned (.tuple #[.int .i64 ((lookR l x (min h.toNat 15)).1 : Int), .int .i64 ((lookR l x (min h.toNat 15)).2.1 : Int), .int .i64 (lookR l x (min h.toNat 15)).2.2]) ∧ Fr [] w w' := by
  obtain ⟨g, hT, hP⟩ := hR
  have HT := Lib.hid (And.intro hT (And.intro hP (And.intro hf (And.intro hl hx))))
  obtain ⟨m, hm⟩ : ∃ m, min h.toNat 15 = m := ⟨_, rfl⟩
  rw [hm]
  have hm15 : m ≤ 15 := by omega
  have hmi : (m : Int) ≤ 15 := by omega
  have hli : (l.length : Int) ≤ 320 := by omega
  have hxi : (x : Int) ≤ 18446744073709551615 := by omega
  have hgl := lt_of hP
  have htl := lt_of hT
  clear hT hP hf hl hx
  by_cases h15 : h ≤ 15
  · obtain rfl : h = (m : Int) := by omega
    clear hm hh1 h15
    go_enter Try.func15, Try.ntmps15
    go_wp2_with fail
    go_loopw [9, 10] (fun so i wr => ∃ j : Nat, j ≤ l.length ∧ i = .int .i64 (j : Int) ∧ so = .bool ((List.range j).any (pfit l x m)) ∧ (∀ s, s < j → (pfit l x m s && decide (l.getD s 0 ≤ m)) = false) ∧ Fr [] w wr) (fun _ i _ => l.length - (intOf i).toNat)
    case atStart => exact ⟨0, Nat.zero_le _, rfl, rfl, fun s hs => absurd hs (by omega), Fr.refl _ _⟩
    case round =>
      obtain ⟨j, hj, rfl, rfl, hno, hf⟩ := hrel
      have t0 := cell_of (hf.blk HT.out.1 (by simp)) 0
      simp only [List.size_toArray, List.getElem?_toArray, List.getElem?_cons_zero, List.getElem?_cons_succ] at t0
      by_cases hjl : j < l.length
      · have hji : (j : Int) < (l.length : Int) := by omega
        obtain ⟨cx, hcx⟩ : ∃ x, (codeP l j).1 = x := ⟨_, rfl⟩
        obtain ⟨z, hz⟩ : ∃ y, (codeP l j).2 = y := ⟨_, rfl⟩
        have e0 := (HT.out.2.1.to hf (by simp)).cell cd_len j 0 hjl (by omega)
        have e1 := (HT.out.2.1.to hf (by simp)).cell cd_len j 1 hjl (by omega)
        simp only [Cd, List.getElem?_cons_zero, List.getElem?_cons_succ, Nat.add_zero] at e0 e1
        rw [hcx] at e0
        rw [hz] at e1
        have hcle : cx ≤ 32767 := by have := codeP_le HT.out.2.2.1 j; omega
        have hzg : l.getD j 0 = z := by rw [← hz, codeP_size]
        have hzle : z ≤ 15 := by have := getD_le HT.out.2.2.1.le j; omega
        have hzi : (z : Int) ≤ 15 := by omega
        have hci : (cx : Int) ≤ 32767 := by omega
        have hgw := Nat.lt_of_lt_of_le hgl hf.size
        have hbk := new_of wr (.cells #[.int .u32 (cx : Int), .int .u8 (z : Int)] 60)
        have hfk := Fr.alloc [] wr (.cells #[.int .u32 (cx : Int), .int .u8 (z : Int)] 60)
        have hcode : 0 < z → cx = codeN l j := fun h => by rw [← hcx]; unfold codeP; rw [if_neg (by omega)]
        have HR := Lib.hid (And.intro hno (And.intro hf (And.intro hzg (And.intro hcode (And.intro hbk hfk)))))
        obtain ⟨any0, hany⟩ : ∃ a, (List.range j).any (pfit l x m) = a := ⟨_, rfl⟩
        rw [hany]
        have HA := Lib.hid hany
        clear hno hf hcx hz hzg hcode hbk hfk hany
        go_wp2_with fail
        obtain ⟨wh, hwh⟩ : ∃ wh, wh = wr := ⟨wr, rfl⟩
        subst hwh
        go_loopw [12, 13] (fun fi k wq => ∃ k' : Nat, k' ≤ min z m ∧ k = .int .i64 (k' : Int) ∧ fi = .bool (decide (0 < z ∧ x % 2 ^ k' = wb l j % 2 ^ k')) ∧ wq.heap[wh.heap.size]? = some (.cells #[.int .u32 (cx : Int), .int .u8 (z : Int)] 60 (0, 0)) ∧ Fr [] wh wq) (fun _ k _ => 20 - (intOf k).toNat)
        case atStart => exact ⟨0, Nat.zero_le _, rfl, by simp [Nat.mod_one], HR.out.2.2.2.2.1, HR.out.2.2.2.2.2⟩
        case round =>
          obtain ⟨k, hk, rfl, rfl, hb, hfq⟩ := hrel
          have c0 := cell_of hb 0
          have c1 := cell_of hb 1
          simp only [List.size_toArray, List.getElem?_toArray, List.getElem?_cons_zero, List.getElem?_cons_succ] at c0 c1
          have hki : (k : Int) ≤ 15 := by omega
          by_cases hkm : k < min z m
          · have hkz : k < z := by omega
            have hk1 : (k : Int) < (z : Int) := by omega
            have hk2 : (k : Int) < (m : Int) := by omega
            have HQ := Lib.hid (And.intro hb (And.intro hfq hkm))
            cases hfi : decide (0 < z ∧ x % 2 ^ k = wb l j % 2 ^ k) with
            | false =>
              have hnx : decide (0 < z ∧ x % 2 ^ (k + 1) = wb l j % 2 ^ (k + 1)) = false := by
                rw [decide_eq_false_iff_not] at hfi ⊢
                rintro ⟨h1, h2⟩
                exact hfi ⟨h1, ((mod_succ_iff _ _ _).1 h2).1⟩
              have HN := Lib.hid hnx
              clear hfi hnx hb hfq hkm
              go_wp2_with fail
              go_roundw
              case rel => exact ⟨k + 1, by have := HQ.out.2.2; omega, by go_num, by rw [HN.out], HQ.out.1, HQ.out.2.1⟩
              case measure => simp [intOf]; omega
            | true =>
              rw [decide_eq_true_eq] at hfi
              have hwb := wb_bit l j k (by rw [HR.out.2.2.1]; exact hkz)
              rw [HR.out.2.2.1, ← HR.out.2.2.2.1 (by omega)] at hwb
              have h1 := fun W => bit05_any cx z k W (by omega) hzle hkz
              have h2 := fun W => bit07_any x k W HT.out.2.2.2.2 (by omega)
              rw [hwb] at h1
              have hst := mod_succ_iff x (wb l j) k
              obtain ⟨p, hp⟩ : ∃ p, wb l j / 2 ^ k % 2 = p := ⟨_, rfl⟩
              obtain ⟨q, hq⟩ : ∃ q, x / 2 ^ k % 2 = q := ⟨_, rfl⟩
              rw [hp] at h1 hst
              rw [hq] at h2 hst
              have hnx : decide (0 < z ∧ x % 2 ^ (k + 1) = wb l j % 2 ^ (k + 1)) = decide (p = q) := by
                by_cases hpq : p = q
                · rw [decide_eq_true hpq, decide_eq_true]
                  exact ⟨by omega, hst.2 ⟨hfi.2, hpq⟩⟩
                · rw [decide_eq_false hpq, decide_eq_false]
                  exact fun e => hpq (hst.1 e.2).2
              have H1 := Lib.hid h1
              have H2 := Lib.hid h2
              have HN := Lib.hid hnx
              clear hfi hwb h1 h2 hst hp hq hnx hb hfq hkm
              go_wp2_with fail
              refine (H1.out _).mono ?_
              rintro e w5 ⟨rfl, f5⟩
              have HF5 := Lib.hid f5
              clear f5
              go_wp2_with fail
              refine (H2.out _).mono ?_
              rintro e w6 ⟨rfl, f6⟩
              have HF6 := Lib.hid (HF5.out.trans f6)
              clear f6
              have hint : ((p : Int) == (q : Int)) = decide (p = q) := by
                by_cases hpq : p = q
                · subst hpq; simp
                · rw [decide_eq_false hpq]; simp; omega
              go_wp2_with fail
              go_roundw
              case rel => exact ⟨k + 1, by have := HQ.out.2.2; omega, by go_num, by rw [HN.out], HF6.out.blk HQ.out.1 (by simp), HQ.out.2.1.trans HF6.out⟩
              case measure => simp [intOf]; omega
          · have hke : k = min z m := by omega
            have hpf : decide (0 < z ∧ x % 2 ^ k = wb l j % 2 ^ k) = pfit l x m j := by
              unfold pfit; rw [HR.out.2.2.1, hke]
            rw [hpf]
            have HQ := Lib.hid (And.intro hb hfq)
            have hstop : ¬ ((k : Int) < (z : Int)) ∨ ¬ ((k : Int) < (m : Int)) := by omega
            cases hpv : pfit l x m j with
            | false =>
              have HPV := Lib.hid hpv
              have hnj := Lib.hid (fun s (hs : s < j + 1) => by
                by_cases hsj : s = j
                · subst hsj; rw [hpv]; rfl
                · exact HR.out.1 s (by omega) : ∀ s, s < j + 1 → (pfit l x m s && decide (l.getD s 0 ≤ m)) = false)
              by_cases hkz : k < z
              · have hk1 : (k : Int) < (z : Int) := by omega
                have hk2 : (m : Int) ≤ (k : Int) := by omega
                clear hpv hpf hb hfq hke hkm hstop hkz
                cases any0 with
                | true =>
                  go_wp2_with fail
                  go_roundw
                  case rel => exact ⟨j + 1, by omega, by go_num, by rw [any_succ, HA.out]; rfl, hnj.out, HR.out.2.1.trans HQ.out.2⟩
                  case measure => simp [intOf]; omega
                | false =>
                  go_wp2_with fail
                  go_roundw
                  case rel => exact ⟨j + 1, by omega, by go_num, by rw [any_succ, HA.out, HPV.out]; rfl, hnj.out, HR.out.2.1.trans HQ.out.2⟩
                  case measure => simp [intOf]; omega
              · have hk1 : (z : Int) ≤ (k : Int) := by omega
                clear hpv hpf hb hfq hke hkm hstop hkz
                cases any0 with
                | true =>
                  go_wp2_with fail
                  go_roundw
                  case rel => exact ⟨j + 1, by omega, by go_num, by rw [any_succ, HA.out]; rfl, hnj.out, HR.out.2.1.trans HQ.out.2⟩
                  case measure => simp [intOf]; omega
                | false =>
                  go_wp2_with fail
                  go_roundw
                  case rel => exact ⟨j + 1, by omega, by go_num, by rw [any_succ, HA.out, HPV.out]; rfl, hnj.out, HR.out.2.1.trans HQ.out.2⟩
                  case measure => simp [intOf]; omega
            | true =>
              have HPV := Lib.hid hpv
              by_cases hzm : z ≤ m
              · have HL := Lib.hid (look_hit l x m j hjl hpv (by rw [HR.out.2.2.1]; exact hzm) HR.out.1)
                have hk1 : (z : Int) ≤ (k : Int) := by omega
                have hz2 : (z : Int) ≤ (m : Int) := by omega
                clear hpv hpf hb hfq hke hkm hstop hzm
                go_wp2_with fail
                go_quiet (fail)
                go_wp2_with fail
                rw [HL.out]
                simp only [HR.out.2.2.1]
                refine bodyPost_ret (v := .tuple #[.int .i64 (j : Int), .int .i64 (z : Int), .int .i64 0]) (by simp [results, Try.results15, go_sem]) rfl ⟨rfl, (HR.out.2.1.trans HQ.out.2).trans (Fr.drewN _ _ _)⟩
              · have hnj := Lib.hid (fun s (hs : s < j + 1) => by
                  by_cases hsj : s = j
                  · subst hsj; rw [HR.out.2.2.1, decide_eq_false hzm]; simp
                  · exact HR.out.1 s (by omega) : ∀ s, s < j + 1 → (pfit l x m s && decide (l.getD s 0 ≤ m)) = false)
                have hk1 : (k : Int) < (z : Int) := by omega
                have hk2 : (m : Int) ≤ (k : Int) := by omega
                have hz2 : (m : Int) < (z : Int) := by omega
                clear hpv hpf hb hfq hke hkm hstop hzm
                cases any0 with
                | true =>
                  go_wp2_with fail
                  go_roundw
                  case rel => exact ⟨j + 1, by omega, by go_num, by rw [any_succ, HA.out]; rfl, hnj.out, HR.out.2.1.trans HQ.out.2⟩
                  case measure => simp [intOf]; omega
                | false =>
                  go_wp2_with fail
                  go_roundw
                  case rel => exact ⟨j + 1, by omega, by go_num, by rw [any_succ, HA.out, HPV.out]; rfl, hnj.out, HR.out.2.1.trans HQ.out.2⟩
                  case measure => simp [intOf]; omega
      · have hje : j = l.length := by omega
        subst hje
        have HF := Lib.hid hf
        have hlk := look_no l x m hno
        cases hany : (List.range l.length).any (pfit l x m) with
        | true =>
          rw [hany, if_pos rfl] at hlk
          have HL := Lib.hid hlk
          clear hany hlk hno hf
          go_wp2_with fail
          rw [HL.out]
          refine bodyPost_ret (v := .tuple #[.int .i64 0, .int .i64 0, .int .i64 6]) (by simp [results, Try.results15, go_sem]) rfl ⟨rfl, HF.out⟩
        | false =>
          rw [hany, if_neg (by simp)] at hlk
          have HL := Lib.hid hlk
          clear hany hlk hno hf
          go_wp2_with fail
          rw [HL.out]
          refine bodyPost_ret (v := .tuple #[.int .i64 0, .int .i64 0, .int .i64 7]) (by simp [results, Try.results15, go_sem]) rfl ⟨rfl, HF.out⟩
  · have h15' : 15 < h := by omega
    have hm0 : m = 15 := by omega
    have HM := Lib.hid hm0
    clear hm h15 hm0
    go_enter Try.func15, Try.ntmps15
    go_wp2_with fail
    rw [show (15 : Int) = (m : Int) by have := HM.out; omega]
    go_loopw [9, 10] (fun so i wr => ∃ j : Nat, j ≤ l.length ∧ i = .int .i64 (j : Int) ∧ so = .bool ((List.range j).any (pfit l x m)) ∧ (∀ s, s < j → (pfit l x m s && decide (l.getD s 0 ≤ m)) = false) ∧ Fr [] w wr) (fun _ i _ => l.length - (intOf i).toNat)
    case atStart => exact ⟨0, Nat.zero_le _, rfl, rfl, fun s hs => absurd hs (by omega), Fr.refl _ _⟩
    case round =>
      obtain ⟨j, hj, rfl, rfl, hno, hf⟩ := hrel
      have t0 := cell_of (hf.blk HT.out.1 (by simp)) 0
      simp only [List.size_toArray, List.getElem?_toArray, List.getElem?_cons_zero, List.getElem?_cons_succ] at t0
      by_cases hjl : j < l.length
      · have hji : (j : Int) < (l.length : Int) := by omega
        obtain ⟨cx, hcx⟩ : ∃ x, (codeP l j).1 = x := ⟨_, rfl⟩
        obtain ⟨z, hz⟩ : ∃ y, (codeP l j).2 = y := ⟨_, rfl⟩
        have e0 := (HT.out.2.1.to hf (by simp)).cell cd_len j 0 hjl (by omega)
        have e1 := (HT.out.2.1.to hf (by simp)).cell cd_len j 1 hjl (by omega)
        simp only [Cd, List.getElem?_cons_zero, List.getElem?_cons_succ, Nat.add_zero] at e0 e1
        rw [hcx] at e0
        rw [hz] at e1
        have hcle : cx ≤ 32767 := by have := codeP_le HT.out.2.2.1 j; omega
        have hzg : l.getD j 0 = z := by rw [← hz, codeP_size]
        have hzle : z ≤ 15 := by have := getD_le HT.out.2.2.1.le j; omega
        have hzi : (z : Int) ≤ 15 := by omega
        have hci : (cx : Int) ≤ 32767 := by omega
        have hgw := Nat.lt_of_lt_of_le hgl hf.size
        have hbk := new_of wr (.cells #[.int .u32 (cx : Int), .int .u8 (z : Int)] 60)
        have hfk := Fr.alloc [] wr (.cells #[.int .u32 (cx : Int), .int .u8 (z : Int)] 60)
        have hcode : 0 < z → cx = codeN l j := fun h => by rw [← hcx]; unfold codeP; rw [if_neg (by omega)]
        have HR := Lib.hid (And.intro hno (And.intro hf (And.intro hzg (And.intro hcode (And.intro hbk hfk)))))
        obtain ⟨any0, hany⟩ : ∃ a, (List.range j).any (pfit l x m) = a := ⟨_, rfl⟩
        rw [hany]
        have HA := Lib.hid hany
        clear hno hf hcx hz hzg hcode hbk hfk hany
        go_wp2_with fail
        obtain ⟨wh, hwh⟩ : ∃ wh, wh = wr := ⟨wr, rfl⟩
        subst hwh
        go_loopw [12, 13] (fun fi k wq => ∃ k' : Nat, k' ≤ min z m ∧ k = .int .i64 (k' : Int) ∧ fi = .bool (decide (0 < z ∧ x % 2 ^ k' = wb l j % 2 ^ k')) ∧ wq.heap[wh.heap.size]? = some (.cells #[.int .u32 (cx : Int), .int .u8 (z : Int)] 60 (0, 0)) ∧ Fr [] wh wq) (fun _ k _ => 20 - (intOf k).toNat)
        case atStart => exact ⟨0, Nat.zero_le _, rfl, by simp [Nat.mod_one], HR.out.2.2.2.2.1, HR.out.2.2.2.2.2⟩
        case round =>
          obtain ⟨k, hk, rfl, rfl, hb, hfq⟩ := hrel
          have c0 := cell_of hb 0
          have c1 := cell_of hb 1
          simp only [List.size_toArray, List.getElem?_toArray, List.getElem?_cons_zero, List.getElem?_cons_succ] at c0 c1
          have hki : (k : Int) ≤ 15 := by omega
          by_cases hkm : k < min z m
          · have hkz : k < z := by omega
            have hk1 : (k : Int) < (z : Int) := by omega
            have hk2 : (k : Int) < (m : Int) := by omega
            have HQ := Lib.hid (And.intro hb (And.intro hfq hkm))
            cases hfi : decide (0 < z ∧ x % 2 ^ k = wb l j % 2 ^ k) with
            | false =>
              have hnx : decide (0 < z ∧ x % 2 ^ (k + 1) = wb l j % 2 ^ (k + 1)) = false := by
                rw [decide_eq_false_iff_not] at hfi ⊢
                rintro ⟨h1, h2⟩
                exact hfi ⟨h1, ((mod_succ_iff _ _ _).1 h2).1⟩
              have HN := Lib.hid hnx
              clear hfi hnx hb hfq hkm
              go_wp2_with fail
              go_roundw
              case rel => exact ⟨k + 1, by have := HQ.out.2.2; omega, by go_num, by rw [HN.out], HQ.out.1, HQ.out.2.1⟩
              case measure => simp [intOf]; omega
            | true =>
              rw [decide_eq_true_eq] at hfi
              have hwb := wb_bit l j k (by rw [HR.out.2.2.1]; exact hkz)
              rw [HR.out.2.2.1, ← HR.out.2.2.2.1 (by omega)] at hwb
              have h1 := fun W => bit05_any cx z k W (by omega) hzle hkz
              have h2 := fun W => bit07_any x k W HT.out.2.2.2.2 (by omega)
              rw [hwb] at h1
              have hst := mod_succ_iff x (wb l j) k
              obtain ⟨p, hp⟩ : ∃ p, wb l j / 2 ^ k % 2 = p := ⟨_, rfl⟩
              obtain ⟨q, hq⟩ : ∃ q, x / 2 ^ k % 2 = q := ⟨_, rfl⟩
              rw [hp] at h1 hst
              rw [hq] at h2 hst
              have hnx : decide (0 < z ∧ x % 2 ^ (k + 1) = wb l j % 2 ^ (k + 1)) = decide (p = q) := by
                by_cases hpq : p = q
                · rw [decide_eq_true hpq, decide_eq_true]
                  exact ⟨by omega, hst.2 ⟨hfi.2, hpq⟩⟩
                · rw [decide_eq_false hpq, decide_eq_false]
                  exact fun e => hpq (hst.1 e.2).2
              have H1 := Lib.hid h1
              have H2 := Lib.hid h2
              have HN := Lib.hid hnx
              clear hfi hwb h1 h2 hst hp hq hnx hb hfq hkm
              go_wp2_with fail
              refine (H1.out _).mono ?_
              rintro e w5 ⟨rfl, f5⟩
              have HF5 := Lib.hid f5
              clear f5
              go_wp2_with fail
              refine (H2.out _).mono ?_
              rintro e w6 ⟨rfl, f6⟩
              have HF6 := Lib.hid (HF5.out.trans f6)
              clear f6
              have hint : ((p : Int) == (q : Int)) = decide (p = q) := by
                by_cases hpq : p = q
                · subst hpq; simp
                · rw [decide_eq_false hpq]; simp; omega
              go_wp2_with fail
              go_roundw
              case rel => exact ⟨k + 1, by have := HQ.out.2.2; omega, by go_num, by rw [HN.out], HF6.out.blk HQ.out.1 (by simp), HQ.out.2.1.trans HF6.out⟩
              case measure => simp [intOf]; omega
          · have hke : k = min z m := by omega
            have hpf : decide (0 < z ∧ x % 2 ^ k = wb l j % 2 ^ k) = pfit l x m j := by
              unfold pfit; rw [HR.out.2.2.1, hke]
            rw [hpf]
            have HQ := Lib.hid (And.intro hb hfq)
            have hstop : ¬ ((k : Int) < (z : Int)) ∨ ¬ ((k : Int) < (m : Int)) := by omega
            cases hpv : pfit l x m j with
            | false =>
              have HPV := Lib.hid hpv
              have hnj := Lib.hid (fun s (hs : s < j + 1) => by
                by_cases hsj : s = j
                · subst hsj; rw [hpv]; rfl
                · exact HR.out.1 s (by omega) : ∀ s, s < j + 1 → (pfit l x m s && decide (l.getD s 0 ≤ m)) = false)
              by_cases hkz : k < z
              · have hk1 : (k : Int) < (z : Int) := by omega
                have hk2 : (m : Int) ≤ (k : Int) := by omega
                clear hpv hpf hb hfq hke hkm hstop hkz
                cases any0 with
                | true =>
                  go_wp2_with fail
                  go_roundw
                  case rel => exact ⟨j + 1, by omega, by go_num, by rw [any_succ, HA.out]; rfl, hnj.out, HR.out.2.1.trans HQ.out.2⟩
                  case measure => simp [intOf]; omega
                | false =>
                  go_wp2_with fail
                  go_roundw
                  case rel => exact ⟨j + 1, by omega, by go_num, by rw [any_succ, HA.out, HPV.out]; rfl, hnj.out, HR.out.2.1.trans HQ.out.2⟩
                  case measure => simp [intOf]; omega
              · have hk1 : (z : Int) ≤ (k : Int) := by omega
                clear hpv hpf hb hfq hke hkm hstop hkz
                cases any0 with
                | true =>
                  go_wp2_with fail
                  go_roundw
                  case rel => exact ⟨j + 1, by omega, by go_num, by rw [any_succ, HA.out]; rfl, hnj.out, HR.out.2.1.trans HQ.out.2⟩
                  case measure => simp [intOf]; omega
                | false =>
                  go_wp2_with fail
                  go_roundw
                  case rel => exact ⟨j + 1, by omega, by go_num, by rw [any_succ, HA.out, HPV.out]; rfl, hnj.out, HR.out.2.1.trans HQ.out.2⟩
                  case measure => simp [intOf]; omega
            | true =>
              have HPV := Lib.hid hpv
              by_cases hzm : z ≤ m
              · have HL := Lib.hid (look_hit l x m j hjl hpv (by rw [HR.out.2.2.1]; exact hzm) HR.out.1)
                have hk1 : (z : Int) ≤ (k : Int) := by omega
                have hz2 : (z : Int) ≤ (m : Int) := by omega
                clear hpv hpf hb hfq hke hkm hstop hzm
                go_wp2_with fail
                go_quiet (fail)
                go_wp2_with fail
                rw [HL.out]
                simp only [HR.out.2.2.1]
                refine bodyPost_ret (v := .tuple #[.int .i64 (j : Int), .int .i64 (z : Int), .int .i64 0]) (by simp [results, Try.results15, go_sem]) rfl ⟨rfl, (HR.out.2.1.trans HQ.out.2).trans (Fr.drewN _ _ _)⟩
              · have hnj := Lib.hid (fun s (hs : s < j + 1) => by
                  by_cases hsj : s = j
                  · subst hsj; rw [HR.out.2.2.1, decide_eq_false hzm]; simp
                  · exact HR.out.1 s (by omega) : ∀ s, s < j + 1 → (pfit l x m s && decide (l.getD s 0 ≤ m)) = false)
                have hk1 : (k : Int) < (z : Int) := by omega
                have hk2 : (m : Int) ≤ (k : Int) := by omega
                have hz2 : (m : Int) < (z : Int) := by omega
                clear hpv hpf hb hfq hke hkm hstop hzm
                cases any0 with
                | true =>
                  go_wp2_with fail
                  go_roundw
                  case rel => exact ⟨j + 1, by omega, by go_num, by rw [any_succ, HA.out]; rfl, hnj.out, HR.out.2.1.trans HQ.out.2⟩
                  case measure => simp [intOf]; omega
                | false =>
                  go_wp2_with fail
                  go_roundw
                  case rel => exact ⟨j + 1, by omega, by go_num, by rw [any_succ, HA.out, HPV.out]; rfl, hnj.out, HR.out.2.1.trans HQ.out.2⟩
                  case measure => simp [intOf]; omega
      · have hje : j = l.length := by omega
        subst hje
        have HF := Lib.hid hf
        have hlk := look_no l x m hno
        cases hany : (List.range l.length).any (pfit l x m) with
        | true =>
          rw [hany, if_pos rfl] at hlk
          have HL := Lib.hid hlk
          clear hany hlk hno hf
          go_wp2_with fail
          rw [HL.out]
          refine bodyPost_ret (v := .tuple #[.int .i64 0, .int .i64 0, .int .i64 6]) (by simp [results, Try.results15, go_sem]) rfl ⟨rfl, HF.out⟩
        | false =>
          rw [hany, if_neg (by simp)] at hlk
          have HL := Lib.hid hlk
          clear hany hlk hno hf
          go_wp2_with fail
          rw [HL.out]
          refine bodyPost_ret (v := .tuple #[.int .i64 0, .int .i64 0, .int .i64 7]) (by simp [results, Try.results15, go_sem]) rfl ⟨rfl, HF.out⟩
end Go.Proofs.Ytmnipgmheapfbaa

