/- The codes of lengths: canon.Codes. Turn; the document's own masks, turned bits and multiples. The codes as they are written: huff.Writes. -/
import Derived.Test.YtciejmlhdmjajaaGreatKWc
import Derived.Test.YtciejmlhdmjajaaGreatKHh
namespace Go.Proofs.YtciejmlhdmjajaaGreat
open Go.RowKit
set_option linter.unusedVariables false
set_option linter.unusedSimpArgs false

theorem kind_le {l : List Nat} (h : kindN l ≠ 5) : badL l = false := by
  cases hb : badL l with
  | false => rfl
  | true => exact absurd (by unfold kindN; rw [hb]; rfl) h
theorem kind_wt {l : List Nat} (h5 : kindN l ≠ 5) (h4 : kindN l ≠ 4) : wt l 15 ≤ 32768 := by
  have hb := kind_le h5
  have h0 : kindN l ≠ 4 := h4
  unfold kindN at h0
  rw [hb] at h0
  by_cases ha : allN l 15 = 0
  · have : ∀ k, k ≤ 15 → wt l k ≤ 0 := by
      have hz : ∀ k, k ≤ 15 → allN l k = 0 := fun k hk => by
        have hm : ∀ d, allN l k ≤ allN l (k + d) := fun d => by induction d with
          | zero => exact Nat.le_refl _
          | succ d ih => exact Nat.le_trans ih (by rw [← Nat.add_assoc]; simp only [allN]; omega)
        have := hm (15 - k)
        rw [show k + (15 - k) = 15 by omega, ha] at this
        omega
      intro k
      induction k with
      | zero => intro _; exact Nat.le_refl _
      | succ k ih =>
        intro hk
        have h1 := ih (by omega)
        have h2 := hz (k + 1) hk
        simp only [allN] at h2
        simp only [wt]
        rw [show cnt l (k + 1) = 0 by omega, Nat.zero_mul]
        omega
    have := this 15 (by omega)
    omega
  · by_cases hw : 32768 < wt l 15
    · rw [if_neg ha, if_pos hw] at h0
      exact absurd rfl h0
    · omega
theorem base_le {l : List Nat} (hw : wt l 15 ≤ 32768) (n : Nat) (h1 : 1 ≤ n) (h15 : n ≤ 15) : base l n + cnt l n ≤ 2 ^ n := by
  obtain ⟨k, rfl⟩ : ∃ k, n = k + 1 := ⟨n - 1, by omega⟩
  have h2 := base_wt l k (by omega)
  have h3 := Nat.le_trans (wt_le l h15) hw
  have h4 : (base l (k + 1) + cnt l (k + 1)) * 2 ^ (15 - (k + 1)) ≤ 2 ^ (k + 1) * 2 ^ (15 - (k + 1)) := by
    rw [Nat.add_mul, h2, pow15 (k + 1) h15]
    simp only [wt] at h3
    omega
  exact Nat.le_of_mul_le_mul_right h4 (Nat.pow_pos (by decide))
theorem base_le16 {l : List Nat} (hw : wt l 15 ≤ 32768) (n : Nat) (h15 : n ≤ 15) : base l n + cnt l n ≤ 32768 + (if n = 0 then l.length else 0) := by
  by_cases h : n = 0
  · subst h; simp [base]; have := cnt_le l 0; omega
  · have := base_le hw n (by omega) h15
    have h2 : 2 ^ n ≤ 2 ^ 15 := Nat.pow_le_pow_right (by decide) h15
    rw [if_neg h]
    omega

set_option maxRecDepth 2000000 in
set_option maxHeartbeats 1600000 in
theorem ccodes_bad (a : Option Addr) (c : Nat) (l : List Nat) (w : World) (hs : SlOf U8 1 w a l) (hl : l.length ≤ 9223372036854775807) (h8 : ∀ x ∈ l, x < 256) (er : Nat) (hk : kindN l = 5 ∧ er = 2 ∨ kindN l = 4 ∧ er = 7) :
    Calls Tryz.prog 65 #[.slice a l.length c] w fun e w' => e = .returned (.tuple #[.slice none 0 0, .int .i64 (er : Int)]) ∧ Fr [] w w' := by
  have HT := Lib.hid (kind_any a c l w hs hl h8)
  clear hs hl h8
  go_enter Tryz.func65, Tryz.ntmps65
  go_wp2_with fail
  refine HT.out.mono ?_
  rintro e w1 ⟨rfl, f1⟩
  clear HT
  have HF := Lib.hid f1
  clear f1
  rcases hk with ⟨hk, rfl⟩ | ⟨hk, rfl⟩
  · rw [hk]
    clear hk
    go_wp2_with fail
    go_ret2
    exact ⟨rfl, HF.out⟩
  · rw [hk]
    clear hk
    go_wp2_with fail
    go_ret2
    exact ⟨rfl, HF.out⟩

set_option maxRecDepth 2000000 in
set_option maxHeartbeats 1600000 in
theorem ccodes_any (a : Option Addr) (c : Nat) (l : List Nat) (w : World) (hs : SlOf U8 1 w a l) (hl : l.length ≤ 9223372036854775807) (h8 : ∀ x ∈ l, x < 256) (hk5 : kindN l ≠ 5) (hk4 : kindN l ≠ 4) :
    Calls Tryz.prog 65 #[.slice a l.length c] w fun e w' => ∃ g, e = .returned (.tuple #[.slice (some ⟨g, 0, none⟩) l.length l.length, .int .i64 0]) ∧ w.heap.size ≤ g ∧ Prow Cd 99 w' g l.length (codeP l) ∧ Fr [] w w' := by
  have hbad := kind_le hk5
  have hw := kind_wt hk5 hk4
  obtain ⟨hlen, hle⟩ := kind_ok hbad
  have HT := Lib.hid (kind_any a c l w hs hl h8)
  have HS := Lib.hid hs
  have H8 := Lib.hid h8
  have HP := Lib.hid (And.intro hbad (And.intro hw (And.intro hle hlen)))
  have i1 : (l.length : Int) ≤ 320 := by omega
  clear hs hl h8 hbad hw hlen hle
  go_enter Tryz.func65, Tryz.ntmps65
  go_wp2_with fail
  refine HT.out.mono ?_
  rintro e w1 ⟨rfl, f1⟩
  clear HT
  have HF := Lib.hid f1
  have HT2 := Lib.hid (tally_any a c l w1 (HS.out.below f1.below) (by have := HP.out.2.2.2; omega) H8.out)
  clear f1
  obtain ⟨q, hq⟩ : ∃ q, kindN l = q := ⟨_, rfl⟩
  rw [hq] at hk5 hk4 ⊢
  have g5 : ¬ (q : Int) = 5 := by omega
  have g4 : ¬ (q : Int) = 4 := by omega
  clear hq hk5 hk4
  go_wp2_with fail
  refine HT2.out.mono ?_
  rintro e w2 ⟨F, rfl, hF, f2⟩
  have hFl : F = cnt l := hF HP.out.1
  subst hFl
  have HF2 := Lib.hid (f2.out HF.out.below (by simp))
  clear f2 HT2 g5 g4 hF
  rw [HP.out.1]
  go_wp2_with (refine wpList_store_row rfl 150 _ _ rfl w2.heap.size _ rfl rfl 150 _ (new_of w2 _) (hi16 _) rfl (hone16 _) ?_)
  have hA : Arow ((w2.alloc (.cells (A16 fun _ => 0) 150)).setRow w2.heap.size (A16 (cnt l))) w2.heap.size (cnt l) := setRow_heap _ _ _ _ _ _ (new_of w2 (.cells (A16 fun _ => 0) 150))
  have hB := below_setRow (HF2.out.alloc HF2.out.size (.cells (A16 fun _ => 0) 150)) HF2.out.size (A16 (cnt l))
  have hz : ((w2.alloc (.cells (A16 fun _ => 0) 150)).setRow w2.heap.size (A16 (cnt l))).heap.size = w2.heap.size + 1 := by simp [World.setRow]
  have HA := Lib.hid (And.intro hA (And.intro hB hz))
  clear hA hB hz
  change Code.wp _ _ _ _ (((w2.alloc (.cells (A16 fun _ => 0) 150)).setRow w2.heap.size (A16 (cnt l))).alloc (.cells ((List.range 17).map fun j => Value.int .u32 ((fun _ => 0 : Nat → Nat) j : Int)).toArray 153))
  generalize (w2.alloc (.cells (A16 fun _ => 0) 150)).setRow w2.heap.size (A16 (cnt l)) = W at *
  have hN : Nrow (W.alloc (.cells ((List.range 17).map fun j => Value.int .u32 ((fun _ => 0 : Nat → Nat) j : Int)).toArray 153)) (w2.heap.size + 1) 153 .u32 17 (fun _ => 0) := by
    have := new_of W (.cells ((List.range 17).map fun j => Value.int .u32 ((fun _ => 0 : Nat → Nat) j : Int)).toArray 153)
    rw [HA.out.2.2] at this
    exact this
  have hA : Arow (W.alloc (.cells ((List.range 17).map fun j => Value.int .u32 ((fun _ => 0 : Nat → Nat) j : Int)).toArray 153)) w2.heap.size (cnt l) := Arow.to HA.out.1 (Fr.alloc [] _ _) (by simp)
  have hB := (Fr.alloc [] W (.cells ((List.range 17).map fun j => Value.int .u32 ((fun _ => 0 : Nat → Nat) j : Int)).toArray 153)).out HA.out.2.1 (by simp)
  generalize W.alloc (.cells ((List.range 17).map fun j => Value.int .u32 ((fun _ => 0 : Nat → Nat) j : Int)).toArray 153) = W' at *
  have HZ := Lib.hid (And.intro HF2.out.size (And.intro hN (And.intro hA hB)))
  clear hN hA hB HA
  go_loopw [7] (fun i wr => ∃ k : Nat, k ≤ 15 ∧ i = .int .i64 (k + 1 : Nat) ∧ Nrow wr (w2.heap.size + 1) 153 .u32 17 (fun j => if j ≤ k + 1 then base l j else 0) ∧ Arow wr w2.heap.size (cnt l) ∧ Below w.heap.size w wr) (fun i _ => 16 - (intOf i).toNat)
  case atStart =>
    refine ⟨0, by omega, rfl, ?_, HZ.out.2.2⟩
    refine HZ.out.2.1.congr fun j hj => ?_
    split
    · rcases (show j = 0 ∨ j = 1 by omega) with rfl | rfl <;> rfl
    · rfl
  case round =>
    obtain ⟨k, hk, rfl, hN, hA, hB⟩ := hrel
    obtain ⟨wh, rfl⟩ : ∃ wh : World, wh = wr := ⟨_, rfl⟩
    by_cases hk15 : k < 15
    · have c0 := hN.cell (k + 1) (by omega)
      have c1 := hA.cell (k + 1) (by omega)
      have f0 := free_of hN (k + 1 + 1)
      have c2 := hN.cell (k + 1 + 1) (by omega)
      rw [if_neg (by omega)] at c2
      have hb := base_le HP.out.2.1 (k + 1) (by omega) (by omega)
      have hb2 : 2 ^ (k + 1) ≤ 2 ^ 15 := Nat.pow_le_pow_right (by decide) (by omega)
      have hst := hN.set_ (G := fun j => if j ≤ k + 1 + 1 then base l j else 0) (k + 2) ((base l (k + 1) + cnt l (k + 1)) * 2) (fun j hj => by
        by_cases hjk : j = k + 2
        · subst hjk
          rw [if_pos (by omega), if_pos rfl]
          rfl
        · rw [if_neg hjk]
          by_cases h : j ≤ k + 1
          · rw [if_pos (by omega), if_pos h]
          · rw [if_neg (by omega), if_neg h])
      simp only [Nat.le_refl, if_true] at c0
      obtain ⟨x, hx⟩ : ∃ x, base l (k + 1) = x := ⟨_, rfl⟩
      obtain ⟨y, hy⟩ : ∃ y, cnt l (k + 1) = y := ⟨_, rfl⟩
      rw [hx] at c0 hst hb
      rw [hy] at c1 hst hb
      have hxy : (x : Int) + (y : Int) ≤ 32768 := by omega
      have hx0 : (x : Int) ≤ 32768 := by omega
      have hy0 : (y : Int) ≤ 32768 := by omega
      have HST := Lib.hid (And.intro hst (And.intro hA hB))
      have HZZ := HZ.out.1
      clear hst hA hB hx hy hb hb2 hN
      go_wp2_with fail
      refine wp_region_quiet_tail 12 (by kernel_rfl) (by kernel_rfl) ?_
      simp only [List.take_succ_cons, List.take_zero, List.drop_succ_cons, List.drop_zero]
      repeat go_big_quiet_step (fail)
      refine wpQuiet_nil ?_
      go_wp2_with fail
      go_roundw
      case rel =>
        refine ⟨k + 1, by omega, by go_num, ?_, ?_, ?_⟩
        · have := HST.out.1
          rw [show ((x + y) * 2 : Nat) = (x + y) * 2 from rfl, Int.natCast_mul, Int.natCast_add] at this
          exact this
        · exact HST.out.2.1.to (Fr.drew (Fr.setCell _ (w2.heap.size + 1) _ _)) (by simp)
        · exact (Fr.drew (Fr.setCell _ (w2.heap.size + 1) _ _)).out HST.out.2.2 (by simp; omega)
      case measure => simp [intOf]; omega
    · have hke : k = 15 := by omega
      subst hke
      have hmk := run_make_codes l.length (by omega) wh
      have HN := Lib.hid (And.intro hN (And.intro hA hB))
      have hbn := hB.size
      have hlt := lt_of hN
      clear hN hA hB
      go_wp2_with fail
      go_loopw [43] (fun i w3 => ∃ j : Nat, j ≤ l.length ∧ i = .int .i64 j ∧ Prow Cd 99 w3 wh.heap.size l.length (fun s => if s < j then codeP l s else (0, 0)) ∧ Nrow w3 (w2.heap.size + 1) 153 .u32 17 (fun n => base l n + (if n = 0 then 0 else cnt (l.take j) n)) ∧ Below w.heap.size w w3) (fun i _ => l.length - (intOf i).toNat)
      case atStart =>
        refine ⟨0, Nat.zero_le _, rfl, ?_, ?_, ?_⟩
        · exact Prow.congr (F := fun _ => (0, 0)) (new_of wh _) (fun j hj => rfl)
        · refine (HN.out.1.to (Fr.alloc [] _ _) (by simp)).congr fun j hj => ?_
          rw [if_pos (show j ≤ 15 + 1 by omega)]
          split <;> simp [cnt]
        · exact (Fr.alloc [] _ _).out HN.out.2.2 (by simp)
      case round =>
        obtain ⟨j, hj, rfl, hP, hN2, hB2⟩ := hrel
        by_cases hjl : j < l.length
        · obtain ⟨x, hx⟩ : ∃ x, l[j]? = some x := ⟨l[j], List.getElem?_eq_getElem hjl⟩
          obtain ⟨b, o, rfl, hbl, hcell⟩ := (HS.out.below hB2) (by intro h; rw [h] at hx; simp at hx)
          have d0 := hcell j x hx 0 (.int .u8 (x : Int)) rfl
          rw [Nat.mul_one, Nat.add_zero] at d0
          have hx15 := HP.out.2.2.1 x (List.mem_of_getElem? hx)
          have hxi : (x : Int) ≤ 15 := by omega
          have hji : (j : Int) < (l.length : Int) := by omega
          by_cases hx0 : x = 0
          · subst hx0
            have HR := Lib.hid (And.intro hP (And.intro hN2 (And.intro hB2 hx)))
            clear hcell hP hN2 hB2 hbl hx hx15
            go_wp2_with fail
            go_roundw
            case rel =>
              refine ⟨j + 1, by omega, by go_num, HR.out.1.congr fun s hs => ?_, HR.out.2.1.congr fun n hn => ?_, HR.out.2.2.1⟩
              · by_cases hsj : s < j
                · rw [if_pos hsj, if_pos (by omega)]
                · rw [if_neg hsj]
                  by_cases hsj' : s < j + 1
                  · rw [if_pos hsj']
                    have : s = j := by omega
                    subst this
                    unfold codeP
                    rw [getD_of HR.out.2.2.2, if_pos rfl]
                  · rw [if_neg hsj']
              · have := cnt_take l j n 0 HR.out.2.2.2
                by_cases hn0 : n = 0
                · rw [if_pos hn0, if_pos hn0]
                · rw [if_neg hn0, if_neg hn0, this, if_neg (fun e => hn0 e.symm), Nat.add_zero]
            case measure => simp [intOf]; omega
          · have hx1 : 1 ≤ (x : Int) := by omega
            have c0 := hN2.cell x (by omega)
            have f0 := free_of hN2 x
            have e0 := hP.cell cd_len j 0 hjl (by omega)
            have e1 := hP.cell cd_len j 1 hjl (by omega)
            have g0 := free_of hP (j * 2)
            have g1 := free_of hP (j * 2 + 1)
            rw [if_neg (by omega)] at e0 e1
            simp only [Cd, List.getElem?_cons_zero, List.getElem?_cons_succ, Nat.add_zero] at e0 e1
            rw [if_neg hx0] at c0
            have hle := cnt_lt hx
            have hb := base_le HP.out.2.1 x (by omega) hx15
            have hb2 : 2 ^ x ≤ 2 ^ 15 := Nat.pow_le_pow_right (by decide) hx15
            obtain ⟨y, hy⟩ : ∃ y, base l x + cnt (l.take j) x = y := ⟨_, rfl⟩
            rw [hy] at c0
            have hyi : (y : Int) ≤ 32768 := by omega
            have HR := Lib.hid (And.intro hP (And.intro hN2 (And.intro hB2 (And.intro hx (And.intro hy hx15)))))
            have hne : ¬ (w2.heap.size + 1 = wh.heap.size) := by omega
            clear hcell hP hN2 hB2 hbl hx hx15 hy hle hb hb2
            go_wp2_with fail
            go_roundw
            case rel =>
              obtain ⟨hP, hN2, hB2, hx, hy, hx15⟩ := HR.out
              have hcd : codeP l j = (y, x) := by unfold codeP codeN; rw [getD_of hx, if_neg hx0, hy]
              refine ⟨j + 1, by omega, by go_num, ?_, ?_, ?_⟩
              · exact (hP.set_ (G := fun s => if s < j + 1 then codeP l s else (0, 0)) cd_len j hjl _ _ (fun s hs hsj => by
                  by_cases h : s < j
                  · rw [if_pos h, if_pos (by omega)]
                  · rw [if_neg h, if_neg (by omega)]) (by rw [if_pos (by omega), hcd]; rfl)).to (Fr.setCell _ (w2.heap.size + 1) _ _) (by simp; omega)
              · have hN3 := (hN2.to ((Fr.setCell _ wh.heap.size (j * 2) (.int .u32 (y : Int))).trans (Fr.setCell _ wh.heap.size (j * 2 + 1) (.int .u8 (x : Int)))) (by simp; omega)).set_ (G := fun n => base l n + (if n = 0 then 0 else cnt (l.take (j + 1)) n)) x (y + 1) (fun n hn => by
                  have h1 := cnt_take l j n x hx
                  by_cases hnx : n = x
                  · subst hnx; rw [if_pos rfl, if_neg hx0, h1, if_pos rfl, ← hy]; omega
                  · rw [if_neg hnx]
                    by_cases hn0 : n = 0
                    · rw [if_pos hn0, if_pos hn0]
                    · rw [if_neg hn0, if_neg hn0, h1, if_neg (fun e => hnx e.symm), Nat.add_zero])
                rw [Int.natCast_add] at hN3
                exact hN3
              · exact (Fr.setCell _ _ _ _).out ((Fr.setCell _ _ _ _).out ((Fr.setCell _ _ _ _).out hB2 (by simp; omega)) (by simp; omega)) (by simp; have := HZ.out.1; omega)
            case measure => simp [intOf]; omega
        · have hje : j = l.length := by omega
          subst hje
          have HR := Lib.hid (And.intro hP hB2)
          clear hP hN2 hB2
          go_wp2_with fail
          go_ret2
          exact ⟨_, rfl, hbn, HR.out.1.congr fun s hs => by rw [if_pos hs], Fr.of_below HR.out.2⟩
end Go.Proofs.YtciejmlhdmjajaaGreat
namespace Go.Proofs.YtciejmlhdmjajaaGreat
open Go.RowKit
set_option linter.unusedVariables false
set_option linter.unusedSimpArgs false

/-- As many bits as there can be. -/
def cl (b : Int) : Nat := min b.toNat 64
theorem turnN_lt64 (n k : Nat) (h : k ≤ 64) : turnN n k < 2 ^ 64 := Nat.lt_of_lt_of_le (turnN_lt n k) (Nat.pow_le_pow_right (by decide) h)

set_option maxRecDepth 100000 in
set_option maxHeartbeats 1600000 in
theorem turn_any (n : Nat) (b : Int) (w : World) (h : n < 2 ^ 64) (hb : -9223372036854775808 ≤ b) (hb1 : b ≤ 9223372036854775807) :
    Calls Tryz.prog 66 #[.int .u64 n, .int .i64 b] w fun e w' => e = .returned (.int .u64 (turnN n (cl b) : Nat)) ∧ w' = w := by
  have hT := turnN_lt64 n 64 (Nat.le_refl _)
  have hm : (64 - max 0 (min b 64)).toNat = 64 - cl b := by unfold cl; omega
  have hd : ((turnN n 64 : Nat) : Int) / 2 ^ (64 - cl b) = (turnN n (cl b) : Nat) := by
    have hc : ((2:Int) ^ (64 - cl b)) = ((2 ^ (64 - cl b) : Nat) : Int) := by simp
    rw [hc, ← Int.natCast_ediv, turnN_div n (cl b) (by unfold cl; omega)]
  have HM := Lib.hid hm
  have HD := Lib.hid hd
  clear hm hd
  go_enter Tryz.func66, Tryz.ntmps66
  go_wp2_with fail
  refine (rev_any n w h).mono ?_
  rintro e w1 ⟨rfl, rfl⟩
  obtain ⟨q, hq⟩ : ∃ q : Nat, q = turnN n 64 := ⟨_, rfl⟩
  have HQ := Lib.hid hq
  rw [← hq] at hT ⊢
  clear hq
  go_wp2
  go_ret
  refine ⟨?_, rfl⟩
  rw [← HD.out, ← HM.out, ← HQ.out]
  rfl

theorem mul_emod_zero (a t : Int) (h : 0 < t) : a % t = 0 → a / t * t = a := by
  intro h0
  have := Int.emod_add_mul_ediv a t
  rw [Int.mul_comm] at this
  omega
end Go.Proofs.YtciejmlhdmjajaaGreat
namespace Go.Proofs.YtciejmlhdmjajaaGreat
open Go.RowKit
set_option linter.unusedVariables false
set_option linter.unusedSimpArgs false

/-- A symbol's code as it is written, nothing if there is none. -/
def codeW (l : List Nat) (s : Nat) : Nat × Nat := (turnN (codeP l s).1 (codeP l s).2, (codeP l s).2)
theorem codeW_eq (l : List Nat) (s : Nat) : codeW l s = if l.getD s 0 = 0 then (0, 0) else (wb l s, l.getD s 0) := by
  unfold codeW codeP
  by_cases h : l.getD s 0 = 0
  · rw [if_pos h, if_pos h]; rfl
  · rw [if_neg h, if_neg h]; rfl
theorem codeP_size (l : List Nat) (s : Nat) : (codeP l s).2 = l.getD s 0 := by
  unfold codeP
  split
  · rename_i h; rw [h]
  · rfl
theorem codeW_size (l : List Nat) (s : Nat) : (codeW l s).2 = l.getD s 0 := codeP_size l s
theorem getD_le {l : List Nat} (h : ∀ x ∈ l, x ≤ 15) (s : Nat) : l.getD s 0 ≤ 15 := by
  cases hs : l[s]? with
  | none => simp [List.getD, hs]
  | some n => rw [getD_of hs]; exact h n (List.mem_of_getElem? hs)
theorem codeP_lt {l : List Nat} (h : Fine l) (s : Nat) : (codeP l s).1 < 2 ^ (codeP l s).2 := by
  rw [codeP_size]
  unfold codeP
  by_cases h0 : l.getD s 0 = 0
  · rw [if_pos h0, h0]; decide
  · rw [if_neg h0]
    obtain ⟨n, h1, h2, h3⟩ := get_of_pos (l := l) (s := s) (by omega)
    rw [h2]
    exact code_lt h h1 h3
theorem codeP_le {l : List Nat} (h : Fine l) (s : Nat) : (codeP l s).1 ≤ 32767 := by
  have h1 := codeP_lt h s
  have h2 : 2 ^ (codeP l s).2 ≤ 2 ^ 15 := Nat.pow_le_pow_right (by decide) (by rw [codeP_size]; exact getD_le h.le s)
  omega
theorem codeW_lt (l : List Nat) (s : Nat) : (codeW l s).1 < 2 ^ (codeW l s).2 := turnN_lt _ _
theorem codeW_le {l : List Nat} (h : ∀ x ∈ l, x ≤ 15) (s : Nat) : (codeW l s).1 ≤ 32767 := by
  have h1 := codeW_lt l s
  have h2 : 2 ^ (codeW l s).2 ≤ 2 ^ 15 := Nat.pow_le_pow_right (by decide) (by rw [codeW_size]; exact getD_le h s)
  omega

set_option maxRecDepth 2000000 in
set_option maxHeartbeats 1600000 in
theorem hwrites_bad (a : Option Addr) (c : Nat) (l : List Nat) (w : World) (hs : SlOf U8 1 w a l) (hl : l.length ≤ 9223372036854775807) (h8 : ∀ x ∈ l, x < 256) (er : Nat) (hk : kindN l = 5 ∧ er = 2 ∨ kindN l = 4 ∧ er = 7) :
    Calls Tryz.prog 45 #[.slice a l.length c] w fun e w' => e = .returned (.tuple #[.slice none 0 0, .int .i64 (er : Int)]) ∧ Fr [] w w' := by
  have HT := Lib.hid (ccodes_bad a c l w hs hl h8 er hk)
  have he : ¬ ((er : Int) = 0) := by omega
  clear hs hl h8 hk
  go_enter Tryz.func45, Tryz.ntmps45
  go_wp2_with fail
  refine HT.out.mono ?_
  rintro e w1 ⟨rfl, f1⟩
  clear HT
  have HF := Lib.hid f1
  clear f1
  go_wp2_with fail
  go_ret2
  exact ⟨rfl, HF.out⟩

set_option maxRecDepth 2000000 in
set_option maxHeartbeats 1600000 in
theorem hwrites_any (a : Option Addr) (c : Nat) (l : List Nat) (w : World) (hs : SlOf U8 1 w a l) (hl : l.length ≤ 9223372036854775807) (h8 : ∀ x ∈ l, x < 256) (hk5 : kindN l ≠ 5) (hk4 : kindN l ≠ 4) :
    Calls Tryz.prog 45 #[.slice a l.length c] w fun e w' => ∃ g, e = .returned (.tuple #[.slice (some ⟨g, 0, none⟩) l.length l.length, .int .i64 0]) ∧ w.heap.size ≤ g ∧ Prow Cd 99 w' g l.length (codeW l) ∧ Fr [] w w' := by
  have hbad := kind_le hk5
  have hw := kind_wt hk5 hk4
  obtain ⟨hlen, hle⟩ := kind_ok hbad
  have HFI := Lib.hid (Fine.mk hle hw)
  have HT := Lib.hid (ccodes_any a c l w hs hl h8 hk5 hk4)
  have i1 : (l.length : Int) ≤ 320 := by omega
  clear hs hl h8 hbad hw hlen hle hk5 hk4
  go_enter Tryz.func45, Tryz.ntmps45
  go_wp2_with fail
  refine HT.out.mono ?_
  rintro e w1 ⟨g, rfl, hg, hP, f1⟩
  clear HT
  have HF := Lib.hid (And.intro hg (And.intro hP f1.below))
  have hgs := lt_of hP
  clear hg hP f1
  go_wp2_with fail
  go_loopw [18] (fun i w3 => ∃ j : Nat, j ≤ l.length ∧ i = .int .i64 j ∧ Prow Cd 99 w3 g l.length (fun s => if s < j then codeW l s else codeP l s) ∧ Below w.heap.size w w3) (fun i _ => l.length - (intOf i).toNat)
  case atStart => exact ⟨0, Nat.zero_le _, rfl, HF.out.2.1.congr fun s hs => rfl, HF.out.2.2⟩
  case round =>
    obtain ⟨j, hj, rfl, hP, hB⟩ := hrel
    by_cases hjl : j < l.length
    · have e0 := hP.cell cd_len j 0 hjl (by omega)
      have e1 := hP.cell cd_len j 1 hjl (by omega)
      have g0 := free_of hP (j * 2)
      have g1 := free_of hP (j * 2 + 1)
      have hgs := lt_of hP
      rw [if_neg (by omega)] at e0 e1
      simp only [Cd, List.getElem?_cons_zero, List.getElem?_cons_succ, Nat.add_zero] at e0 e1
      obtain ⟨x, hx⟩ : ∃ x, (codeP l j).1 = x := ⟨_, rfl⟩
      obtain ⟨y, hy⟩ : ∃ y, (codeP l j).2 = y := ⟨_, rfl⟩
      rw [hx] at e0
      rw [hy] at e1
      have hx1 : (x : Int) ≤ 32767 := by have := codeP_le HFI.out j; omega
      have hy1 : (y : Int) ≤ 15 := by have := getD_le HFI.out.le j; rw [← hy, codeP_size]; omega
      have hji : (j : Int) < (l.length : Int) := by omega
      have hcl : cl (y : Int) = y := by unfold cl; omega
      have hz : turnN x y ≤ 32767 := by
        have h1 := turnN_lt x y
        have h2 : 2 ^ y ≤ 2 ^ 15 := Nat.pow_le_pow_right (by decide) (by omega)
        omega
      have HT := Lib.hid (fun W => turn_any x y W (by omega) (by omega) (by omega))
      have HR := Lib.hid (And.intro hP (And.intro hB (And.intro hx (And.intro hy (And.intro hcl hz)))))
      clear hP hB hx hy hcl hz
      go_wp2_with fail
      refine (HT.out _).mono ?_
      rintro e w4 ⟨rfl, hw4⟩
      rw [HR.out.2.2.2.2.1]
      obtain ⟨z, hzz⟩ : ∃ z, turnN x y = z := ⟨_, rfl⟩
      have hz1 : (z : Int) ≤ 32767 := by have := HR.out.2.2.2.2.2; omega
      rw [hzz]
      have HZ := Lib.hid hzz
      clear hzz
      subst hw4
      go_wp2_with fail
      go_roundw
      case rel =>
        refine ⟨j + 1, by omega, by go_num, ?_, ?_⟩
        · have hP2 := HR.out.1.set0 (G := fun s => if s < j + 1 then codeW l s else codeP l s) cd_len j hjl (.int .u32 (z : Int)) (.int .u8 (y : Int)) (fun s hs hsj => by
            by_cases h : s < j
            · rw [if_pos h, if_pos (by omega)]
            · rw [if_neg h, if_neg (by omega)]) (by rw [if_pos (by omega)]; unfold codeW Cd; rw [HR.out.2.2.1, HR.out.2.2.2.1, HZ.out]) (by rw [if_neg (by omega)]; unfold Cd; rw [HR.out.2.2.2.1]; rfl)
          exact hP2.to (Fr.alloc [] _ _) (by simp)
        · exact (Fr.alloc [] _ _).out ((Fr.setCell _ g _ _).out HR.out.2.1 (by simp; exact HF.out.1)) (by simp)
      case measure => simp [intOf]; omega
    · have hje : j = l.length := by omega
      subst hje
      have HR := Lib.hid (And.intro hP hB)
      clear hP hB
      go_wp2_with fail
      go_ret2
      exact ⟨_, rfl, HF.out.1, HR.out.1.congr fun s hs => by rw [if_pos hs], Fr.of_below HR.out.2⟩
end Go.Proofs.YtciejmlhdmjajaaGreat

