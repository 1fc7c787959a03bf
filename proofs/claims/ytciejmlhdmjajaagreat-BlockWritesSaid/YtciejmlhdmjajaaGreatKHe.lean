/- What lengths are: canon's Kind. -/
import Derived.Test.YtciejmlhdmjajaaGreatKHd
import Derived.IntWalk
namespace Go.Proofs.YtciejmlhdmjajaaGreat
open Go.RowKit
set_option linter.unusedVariables false
set_option linter.unusedSimpArgs false

theorem allN_le (l : List Nat) (k : Nat) : allN l k ≤ l.length := by
  induction l with
  | nil => induction k with
    | zero => simp [allN]
    | succ k ih => simp only [allN, cnt]; omega
  | cons x l ih => rw [allN_cons, List.length_cons]; split <;> omega
theorem wt_bound (l : List Nat) (k : Nat) : wt l k ≤ l.length * 16384 := by
  induction l with
  | nil => induction k with
    | zero => simp [wt]
    | succ k ih => simp only [wt, cnt]; omega
  | cons x l ih =>
    rw [wt_cons, List.length_cons]
    by_cases h : 0 < x ∧ x ≤ k
    · rw [if_pos h]
      have : 2 ^ (15 - x) ≤ 2 ^ 14 := Nat.pow_le_pow_right (by decide) (by omega)
      omega
    · rw [if_neg h]; exact Nat.le_trans ih (Nat.mul_le_mul_right _ (Nat.le_succ _))
theorem hu16 : Tryz.prog.underlying 150 = some (.array 16 3) := by kernel_rfl
set_option maxRecDepth 2000000 in
theorem hi16 (F : Nat → Nat) : (Tryz.prog.info? 150).map (·.size) = some (A16 F).size := by unfold A16; rw [List.size_toArray, List.length_map, List.length_range]; kernel_rfl
set_option maxRecDepth 2000000 in
theorem hone16 (F : Nat → Nat) : (A16 F).all (·.oneCell') = true := by unfold A16; simp [Value.oneCell']

set_option maxRecDepth 2000000 in
set_option maxHeartbeats 1600000 in
theorem kind_any (a : Option Addr) (c : Nat) (l : List Nat) (w : World) (hs : SlOf U8 1 w a l) (hl : l.length ≤ 9223372036854775807) (h8 : ∀ x ∈ l, x < 256) :
    Calls Tryz.prog 93 #[.slice a l.length c] w fun e w' => e = .returned (.int .u8 (kindN l : Int)) ∧ Fr [] w w' := by
  have HT := Lib.hid (tally_any a c l w hs hl h8)
  clear hs hl h8
  go_enter Tryz.func93, Tryz.ntmps93
  go_wp2_with fail
  refine HT.out.mono ?_
  rintro e w1 ⟨F, rfl, hF, f1⟩
  have HF := Lib.hid (And.intro hF f1)
  clear hF f1 HT
  cases hb : badL l with
  | true =>
    have HK := Lib.hid (show kindN l = 5 by unfold kindN; rw [hb]; rfl)
    clear hb
    go_wp2_with (refine wpList_store_row rfl 150 _ _ rfl w1.heap.size _ rfl rfl 150 _ (new_of w1 _) (hi16 _) rfl (hone16 _) ?_)
    go_ret
    rw [HK.out]
    exact ⟨rfl, Fr.of_below (below_setRow (HF.out.2.below.alloc HF.out.2.size _) HF.out.2.size _)⟩
  | false =>
    have HK := Lib.hid hb
    obtain ⟨hlen, hle⟩ := kind_ok hb
    have hFl : F = cnt l := HF.out.1 hb
    subst hFl
    have hA : Arow ((w1.alloc (.cells (A16 fun _ => 0) 150)).setRow w1.heap.size (A16 (cnt l))) w1.heap.size (cnt l) := setRow_heap _ _ _ _ _ _ (new_of w1 _)
    have hB := below_setRow (HF.out.2.below.alloc HF.out.2.size (.cells (A16 fun _ => 0) 150)) HF.out.2.size (A16 (cnt l))
    have HA := Lib.hid (And.intro hA hB)
    clear hb hA hB
    go_wp2_with (refine wpList_store_row rfl 150 _ _ rfl w1.heap.size _ rfl rfl 150 _ (new_of w1 _) (hi16 _) rfl (hone16 _) ?_)
    change Code.wp _ _ _ _ ((w1.alloc (.cells (A16 fun _ => 0) 150)).setRow w1.heap.size (A16 (cnt l)))
    generalize (w1.alloc (.cells (A16 fun _ => 0) 150)).setRow w1.heap.size (A16 (cnt l)) = W at *
    go_loop [5, 6, 7] (fun x y i => ∃ k : Nat, k ≤ 15 ∧ i = .int .i64 (k + 1 : Nat) ∧ x = .int .i64 (wt l k) ∧ y = .int .i64 (allN l k)) (fun _ _ i => 16 - (intOf i).toNat)
    case atStart => exact ⟨0, Nat.zero_le _, rfl, rfl, rfl⟩
    case round =>
      obtain ⟨k, hk, rfl, rfl, rfl⟩ := hrel
      by_cases hk15 : k < 15
      · have c0 := HA.out.1.cell (k + 1) (by omega)
        have hcl := cnt_le l (k + 1)
        have hwl := wt_bound l k
        have hwl2 := wt_bound l (k + 1)
        have hal := allN_le l k
        obtain ⟨q, hq⟩ : ∃ q, cnt l (k + 1) = q := ⟨_, rfl⟩
        obtain ⟨z, hz⟩ : ∃ z, wt l k = z := ⟨_, rfl⟩
        obtain ⟨y, hy⟩ : ∃ y, allN l k = y := ⟨_, rfl⟩
        rw [hq] at c0 hcl
        rw [hz] at hwl ⊢
        rw [hy] at hal ⊢
        have hp : wt l (k + 1) = z + q * 2 ^ (14 - k) := by rw [← hz, ← hq]; simp only [wt]; rw [show 15 - (k + 1) = 14 - k by omega]
        obtain ⟨p, hpp⟩ : ∃ p, q * 2 ^ (14 - k) = p := ⟨_, rfl⟩
        have hpi : (q : Int) * 2 ^ (14 - k) = (p : Int) := by rw [← hpp]; simp
        have hy2 : allN l (k + 1) = y + q := by rw [← hy, ← hq]; simp only [allN]
        rw [hpp] at hp
        have hw : wrap64 ((z : Int) + wrap64 ((q : Int) * 2 ^ (14 - k))) = ((z + p : Nat) : Int) := by
          rw [hpi]
          have hzp : z + p ≤ 5242880 := by omega
          clear hq hz hy hpp hwl hwl2 hal hcl hp hy2
          rw [IntWalk.wrap64_in (p : Int) ⟨by omega, by omega⟩, IntWalk.wrap64_in _ ⟨by omega, by omega⟩]
          omega
        have HW := Lib.hid (And.intro hp (And.intro hy2 hw))
        have hqi : (q : Int) ≤ 320 := by omega
        have hyi : (y : Int) ≤ 320 := by omega
        clear hq hz hy hpp hpi hp hy2 hw hwl hwl2 hal hcl
        go_wp2_with fail
        refine ⟨⟨k + 1, by omega, by go_num, ?_, ?_⟩, by simp [intOf]; omega⟩
        · rw [HW.out.1, HW.out.2.2]
        · rw [HW.out.2.1]; go_num
      · have hke : k = 15 := by omega
        subst hke
        have c1 := HA.out.1.cell 1 (by omega)
        have hwl := wt_bound l 15
        have hal := allN_le l 15
        have hcl := cnt_le l 1
        have hk1 : kindN l = if allN l 15 = 0 then 0 else if 32768 < wt l 15 then 4 else if wt l 15 = 32768 then 2 else if allN l 15 = 1 ∧ cnt l 1 = 1 then 1 else 3 := by unfold kindN; rw [HK.out]; rfl
        have hB := Lib.hid HA.out.2
        obtain ⟨z, hz⟩ : ∃ z, wt l 15 = z := ⟨_, rfl⟩
        obtain ⟨y, hy⟩ : ∃ y, allN l 15 = y := ⟨_, rfl⟩
        obtain ⟨q, hq⟩ : ∃ q, cnt l 1 = q := ⟨_, rfl⟩
        rw [hz, hy, hq] at hk1
        rw [hz] at hwl ⊢
        rw [hy] at hal ⊢
        rw [hq] at c1 hcl
        clear hz hy hq
        have hzi : (z : Int) ≤ 5242880 := by omega
        have hyi : (y : Int) ≤ 320 := by omega
        by_cases g1 : y = 0
        · subst g1
          have HKK := Lib.hid (show kindN l = 0 by rw [hk1]; rfl)
          clear hk1 hwl hal hcl
          go_wp2_with fail
          go_ret
          rw [HKK.out]
          exact ⟨rfl, Fr.of_below hB.out⟩
        · have hy0 : ¬ (y : Int) = 0 := by omega
          rw [if_neg g1] at hk1
          by_cases g2 : 32768 < z
          · have HKK := Lib.hid (show kindN l = 4 by rw [hk1, if_pos g2])
            have hz1 : (32769 : Int) ≤ (z : Int) := by omega
            clear hk1 hwl hal hcl g1 g2
            go_wp2_with fail
            go_ret
            rw [HKK.out]
            exact ⟨rfl, Fr.of_below hB.out⟩
          · rw [if_neg g2] at hk1
            by_cases g3 : z = 32768
            · subst g3
              have HKK := Lib.hid (show kindN l = 2 by rw [hk1, if_pos rfl])
              clear hk1 hwl hal hcl g1 g2
              go_wp2_with fail
              go_ret
              rw [HKK.out]
              exact ⟨rfl, Fr.of_below hB.out⟩
            · have hz1 : (z : Int) ≤ 32767 := by omega
              rw [if_neg g3] at hk1
              by_cases g4 : y = 1 ∧ q = 1
              · obtain ⟨rfl, rfl⟩ := g4
                have HKK := Lib.hid (show kindN l = 1 by rw [hk1]; rfl)
                clear hk1 hwl hal hcl g1 g2 g3
                go_wp2_with fail
                go_ret
                rw [HKK.out]
                exact ⟨rfl, Fr.of_below hB.out⟩
              · have HKK := Lib.hid (show kindN l = 3 by rw [hk1, if_neg g4])
                by_cases g5 : y = 1
                · subst g5
                  have g6 : ¬ (q : Int) = 1 := by omega
                  clear hk1 hwl hal hcl g1 g2 g3 g4
                  go_wp2_with fail
                  go_ret
                  rw [HKK.out]
                  exact ⟨rfl, Fr.of_below hB.out⟩
                · have g6 : ¬ (y : Int) = 1 := by omega
                  clear hk1 hwl hal hcl g1 g2 g3 g4 g5
                  go_wp2_with fail
                  go_ret
                  rw [HKK.out]
                  exact ⟨rfl, Fr.of_below hB.out⟩
end Go.Proofs.YtciejmlhdmjajaaGreat

