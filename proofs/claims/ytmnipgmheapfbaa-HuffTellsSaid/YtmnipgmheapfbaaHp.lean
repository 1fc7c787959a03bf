/- What bits begin with: huff's (*Table).Look. -/
import Derived.Test.YtmnipgmheapfbaaHo
namespace Go.Proofs.Ytmnipgmheapfbaa
open Go.RowKit
open Go.Maps (Keyed)
set_option linter.unusedVariables false
set_option linter.unusedSimpArgs false

theorem look_cell (l : List Nat) (F x m : Nat) (hf : Fine l) : lookN l x m = if (cellOf l F (x % 2 ^ m)).2 = 0 then (0, 0, 7) else if m < (cellOf l F (x % 2 ^ m)).2 then (0, 0, 6) else ((cellOf l F (x % 2 ^ m)).1, (cellOf l F (x % 2 ^ m)).2, 0) := by
  rw [cellOf_eq l F _ hf]
  unfold lookN
  cases e : findS l (x % 2 ^ m) with
  | none => rfl
  | some s =>
    obtain ⟨n, h1, h2, h3⟩ := fits_get (findS_some e)
    simp only
    rw [if_neg (show ¬ l.getD s 0 = 0 by omega)]
theorem cells_nil (W : World) (a : Option Addr) (n c : Nat) : (binOp .eql 68 (.slice a n c) (.slice none 0 0)).run Try.prog W = .ok (.bool a.isNone) W := Lib.run_eql_slice_nil W _ _ a n c 0 0 Try.underlying68

set_option maxRecDepth 2000000 in
set_option maxHeartbeats 3200000 in
theorem look_nil (x h : Int) (w : World) : Calls Try.prog 14 #[.pointer none, .int .u64 x, .int .i64 h] w fun e w' => e = .returned (.tuple #[.int .i64 0, .int .i64 0, .int .i64 1]) ∧ Fr [] w w' := by
  go_enter Try.func14, Try.ntmps14
  go_wp2_with fail
  refine bodyPost_ret (v := .tuple #[.int .i64 0, .int .i64 0, .int .i64 1]) (by simp [results, Try.results14, go_sem]) rfl ⟨rfl, Fr.refl _ _⟩
set_option maxRecDepth 2000000 in
set_option maxHeartbeats 3200000 in
theorem look_arg (tb : Nat) (l : List Nat) (F hi : Nat) (x h : Int) (w : World) (hT : Tb w hi tb l F) (hh : h < 0) : Calls Try.prog 14 #[.pointer (some ⟨tb, 0, none⟩), .int .u64 x, .int .i64 h] w fun e w' => e = .returned (.tuple #[.int .i64 0, .int .i64 0, .int .i64 2]) ∧ Fr [] w w' := by
  obtain ⟨bc, bm, n, B, h1, h2, h3, h4, h5, h6, h7, h8⟩ := hT
  have c1 := cell_of h1 1
  simp only [List.size_toArray, List.getElem?_toArray, List.getElem?_cons_zero, List.getElem?_cons_succ] at c1
  clear h1 h2 h3 h4 h5 h6 h7 h8
  have hsn := cells_nil
  go_enter Try.func14, Try.ntmps14
  go_wp2_with fail
  refine bodyPost_ret (v := .tuple #[.int .i64 0, .int .i64 0, .int .i64 2]) (by simp [results, Try.results14, go_sem]) rfl ⟨rfl, Fr.refl _ _⟩
set_option maxRecDepth 2000000 in
set_option maxHeartbeats 3200000 in
theorem look_any (tb : Nat) (l : List Nat) (F hi x : Nat) (h : Int) (w : World) (hT : Tb w hi tb l F) (hf : Fine l) (hl : l.length ≤ 320) (hF : F ≤ 15) (hx : x < 18446744073709551616) (hh : 0 ≤ h) (hh1 : h ≤ 9223372036854775807) :
    Calls Try.prog 14 #[.pointer (some ⟨tb, 0, none⟩), .int .u64 (x : Int), .int .i64 h] w fun e w' => e = .returned (.tuple #[.int .i64 ((lookN l x (min h.toNat 15)).1 : Int), .int .i64 ((lookN l x (min h.toNat 15)).2.1 : Int), .int .i64 (lookN l x (min h.toNat 15)).2.2]) ∧ Fr [] w w' := by
  obtain ⟨bc, bm, n, B, h1, h2, h3, h4, h5, h6, h7, h8⟩ := hT
  have c1 := cell_of h1 1
  have c2 := cell_of h1 2
  have c0 := cell_of h1 0
  simp only [List.size_toArray, List.getElem?_toArray, List.getElem?_cons_zero, List.getElem?_cons_succ] at c0 c1 c2
  have HT := Lib.hid (And.intro h1 (And.intro h2 (And.intro h3 (And.intro h4 (And.intro hf hl)))))
  have hlt := lt_of h1
  have hxi : (x : Int) ≤ 18446744073709551615 := by omega
  have hFi : (F : Int) ≤ 15 := by omega
  obtain ⟨m, hm⟩ : ∃ m, min h.toNat 15 = m := ⟨_, rfl⟩
  rw [hm]
  have hmi : min h 15 = (m : Int) := by omega
  have hm15 : (m : Int) ≤ 15 := by omega
  obtain ⟨y, hy⟩ : ∃ y, x % 2 ^ m = y := ⟨_, rfl⟩
  have hmask := fun W => mask_any (m : Int) W
  rw [maskN_nat m (by omega)] at hmask
  obtain ⟨mk, hmk⟩ : ∃ mk, 2 ^ m - 1 = mk := ⟨_, rfl⟩
  have hand : bits BinOp.and IntKind.u64 (x : Int) (mk : Int) = (y : Int) := by rw [← hmk, ← hy]; exact and_mask x m hx (by omega)
  rw [hmk] at hmask
  have hyi : (y : Int) ≤ 32767 := by
    have h1 := Nat.mod_lt x (show 0 < 2 ^ m from Nat.pow_pos (by decide))
    have h2 : 2 ^ m ≤ 2 ^ 15 := Nat.pow_le_pow_right (by decide) (by omega)
    omega
  have HM := Lib.hid hmask
  have HY := Lib.hid (And.intro hy hm)
  have HROW := Lib.hid (fun W (hW : Fr [] w W) => row_any tb F y _ _ W (hW.blk h1 (by simp)) hF (by omega))
  have hp15 : 2 ^ F ≤ 2 ^ 15 := Nat.pow_le_pow_right (by decide) hF
  obtain ⟨p, hp⟩ : ∃ p, 2 ^ F = p := ⟨_, rfl⟩
  rw [hp] at c1 hp15
  have hpi : (p : Int) ≤ 32768 := by omega
  obtain ⟨k, hk⟩ : ∃ k, y % 2 ^ F = k := ⟨_, rfl⟩
  rw [hk] at HROW
  have hkp : k < p := by rw [← hk, ← hp]; exact Nat.mod_lt _ (Nat.pow_pos (by decide))
  have HP := Lib.hid (And.intro hp hk)
  clear h1 h2 h3 h4 h5 h6 h7 h8 hf hl hF hx hm hy hmask hmk hp hk hp15
  have hsn := cells_nil
  go_enter Try.func14, Try.ntmps14
  go_wp2_with fail
  refine (HM.out _).mono ?_
  rintro e w1 ⟨rfl, hw1⟩
  subst hw1
  go_wp2_with fail
  refine (HROW.out _ (Fr.refl _ _)).mono ?_
  rintro e w4 ⟨rfl, f4⟩
  have HF4 := Lib.hid f4
  clear f4
  go_wp2_with fail
  have hfa := HF4.out.trans (Fr.alloc [] w4 (.cells #[.int .u64 (k : Int), .int .i64 (F : Int)] 74))
  have hb5 := new_of w4 (.cells #[.int .u64 (k : Int), .int .i64 (F : Int)] 74)
  generalize w4.alloc (.cells #[.int .u64 (k : Int), .int .i64 (F : Int)] 74) = W5 at *
  have hC5 := HT.out.2.1.to hfa (by simp)
  have t0 := cell_of (hfa.blk HT.out.1 (by simp)) 0
  have t1 := cell_of (hfa.blk HT.out.1 (by simp)) 1
  have t2 := cell_of (hfa.blk HT.out.1 (by simp)) 2
  have m0 := cell_of hb5 0
  have m1 := cell_of hb5 1
  have d0 := hC5.cell cl_len k 0 (by rw [HP.out.1]; exact hkp) (by omega)
  have d1 := hC5.cell cl_len k 1 (by rw [HP.out.1]; exact hkp) (by omega)
  simp only [List.size_toArray, List.getElem?_toArray, List.getElem?_cons_zero, List.getElem?_cons_succ, Cl, Nat.add_zero] at t0 t1 t2 m0 m1 d0 d1
  rw [HP.out.1] at t1
  obtain ⟨z0, hz0⟩ : ∃ z, (cellF l F l.length k).1 = z := ⟨_, rfl⟩
  obtain ⟨z1, hz1⟩ : ∃ z, (cellF l F l.length k).2 = z := ⟨_, rfl⟩
  rw [hz0] at d0
  rw [hz1] at d1
  have l1 := lt_of hb5
  have l2 := Nat.lt_of_lt_of_le hlt hfa.size
  have l3 := lt_of hC5
  have HW5 := Lib.hid (And.intro hfa (And.intro hz0 hz1))
  have HB5 := Lib.hid hb5
  clear hfa hb5 hC5 hz0 hz1 c0 c1 c2 HF4
  go_region_held3 (fun W => W.cell? ⟨tb, 1, none⟩ = some (.slice (some ⟨bc, 0, none⟩) p p) ∧ W.cell? ⟨w4.heap.size, 0, none⟩ = some (.int .u64 (k : Int)) ∧ W.cell? ⟨bc, k * 2, none⟩ = some (.int .i64 (z0 : Int)) ∧ W.cell? ⟨bc, k * 2 + 1, none⟩ = some (.int .i64 (z1 : Int))) (first | go_keep) (first | fail)
  go_wp2_with fail
  have hg0 := HW5.out.1.trans (Fr.drew (Fr.alloc [] W5 (.cells #[.int .i64 (z0 : Int), .int .i64 (z1 : Int)] 82)))
  have hn0 := new_of W5 (.cells #[.int .i64 (z0 : Int), .int .i64 (z1 : Int)] 82)
  have hn1 : (W5.alloc (.cells #[.int .i64 (z0 : Int), .int .i64 (z1 : Int)] 82)).drew.heap[W5.heap.size]? = _ := hn0
  have hb6 : (W5.alloc (.cells #[.int .i64 (z0 : Int), .int .i64 (z1 : Int)] 82)).drew.heap[w4.heap.size]? = _ := (Fr.alloc [] W5 _).blk HB5.out (by simp)
  obtain ⟨g, hg⟩ : ∃ g, W5.heap.size = g := ⟨_, rfl⟩
  have HWG := Lib.hid (show w1.heap.size ≤ g by have := HW5.out.1.size; omega)
  have HGS := Lib.hid (show W5.heap.size ≤ g by omega)
  rw [hg] at hn1 ⊢
  generalize (W5.alloc (.cells #[.int .i64 (z0 : Int), .int .i64 (z1 : Int)] 82)).drew = W6 at *
  have hMp := HT.out.2.2.1.to hg0 (by simp)
  have hky := row_key F k (by omega) (by omega)
  have hlk := fun n => (hMp.to (Fr.drewN [] W6 n) (by simp)).lookup (t := 69) (e := 68) (z := .slice none 0 0) true rowK Try.underlying69 (by kernel_rfl) hky
  rw [kf_rk] at hlk
  unfold rk at hlk
  simp only [if_true] at hlk
  have a0 := cell_of (hg0.blk HT.out.1 (by simp)) 0
  have a2 := cell_of (hg0.blk HT.out.1 (by simp)) 2
  have m0 := cell_of hb6 0
  have m1 := cell_of hb6 1
  have x0 := cell_of hn1 0
  have x1 := cell_of hn1 1
  have g0 := free_of hn1 0
  have g1 := free_of hn1 1
  simp only [List.size_toArray, List.getElem?_toArray, List.getElem?_cons_zero, List.getElem?_cons_succ] at a0 a2 m0 m1 x0 x1
  have hgt : w4.heap.size < g := by omega
  have htg : tb < g := by omega
  have HG := Lib.hid (And.intro hg0 hn1)
  have HMP := Lib.hid hMp
  clear hg0 hn0 hn1 hb6 hMp hky t0 t1 t2 d0 d1 l1 l2 l3 hg
  by_cases hlz : lng l F l.length k = 0
  · rw [if_pos hlz] at hlk
    simp only [Option.getD_none, Option.isSome_none] at hlk
    have HC : Hid (cellOf l F (x % 2 ^ m) = (z0, z1)) := by
      refine Lib.hid ?_
      unfold cellOf
      rw [HY.out.1, HP.out.2, if_pos hlz, ← HW5.out.2.1, ← HW5.out.2.2]
    have HFR := Lib.hid HG.out.1
    obtain ⟨c0', rfl⟩ : ∃ c, c = z0 := ⟨_, rfl⟩
    obtain ⟨c1', rfl⟩ : ∃ c, c = z1 := ⟨_, rfl⟩
    clear hlz
    go_quiet (fail)
    have HFR := Lib.hid (HFR.out.trans (Fr.drewN _ _ nq))
    clear hlk
    by_cases q1 : c1' = 0
    · subst q1
      have HL := Lib.hid (show lookN l x m = (0, 0, 7) by rw [look_cell l F x m HT.out.2.2.2.2.1, HC.out, if_pos rfl])
      go_wp2_with fail
      rw [HL.out]
      refine bodyPost_ret (v := .tuple #[.int .i64 0, .int .i64 0, .int .i64 7]) (by simp [results, Try.results14, go_sem]) rfl ⟨rfl, HFR.out⟩
    · have q2 : ¬ (c1' : Int) = 0 := by omega
      by_cases q3 : m < c1'
      · have HL := Lib.hid (show lookN l x m = (0, 0, 6) by rw [look_cell l F x m HT.out.2.2.2.2.1, HC.out, if_neg q1, if_pos q3])
        have q4 : (m : Int) < (c1' : Int) := by omega
        clear q1 q3
        go_wp2_with fail
        rw [HL.out]
        refine bodyPost_ret (v := .tuple #[.int .i64 0, .int .i64 0, .int .i64 6]) (by simp [results, Try.results14, go_sem]) rfl ⟨rfl, HFR.out⟩
      · have HL := Lib.hid (show lookN l x m = (c0', c1', 0) by rw [look_cell l F x m HT.out.2.2.2.2.1, HC.out, if_neg q1, if_neg q3])
        have q4 : (c1' : Int) ≤ (m : Int) := by omega
        clear q1 q3
        go_wp2_with fail
        go_quiet (fail)
        go_wp2_with fail
        rw [HL.out]
        refine bodyPost_ret (v := .tuple #[.int .i64 (c0' : Int), .int .i64 (c1' : Int), .int .i64 0]) (by simp [results, Try.results14, go_sem]) rfl ⟨rfl, HFR.out.trans (Fr.drewN _ _ _)⟩
  · rw [if_neg hlz] at hlk
    simp only [Option.getD_some, Option.isSome_some] at hlk
    have hl15 := lng_le l F l.length k HT.out.2.2.2.2.1.le
    have hs15 : 2 ^ lng l F l.length k ≤ 2 ^ 15 := Nat.pow_le_pow_right (by decide) (by omega)
    have hs0 : 0 < 2 ^ lng l F l.length k := Nat.pow_pos (by decide)
    have hCk := (HT.out.2.2.2.1 k hlz).1.to HG.out.1 (by simp)
    have hBg : B k < g := by
      have := lt_of (HT.out.2.2.2.1 k hlz).1
      have h2 := HW5.out.1.size
      have h3 := HGS.out
      omega
    obtain ⟨qq, hqq⟩ : ∃ qq, y / 2 ^ F = qq := ⟨_, rfl⟩
    have hq1 : (y : Int) / 2 ^ F = (qq : Int) := by rw [← hqq]; simp
    have hqle : qq ≤ 32767 := by rw [← hqq]; exact Nat.le_trans (Nat.div_le_self _ _) (by omega)
    have hand2 := and_mask qq (lng l F l.length k) (by omega) (by omega)
    obtain ⟨i, hii⟩ : ∃ i, qq % 2 ^ lng l F l.length k = i := ⟨_, rfl⟩
    have hilt : i < 2 ^ lng l F l.length k := by rw [← hii]; exact Nat.mod_lt _ hs0
    have HC : Hid (cellOf l F (x % 2 ^ m) = cellM l F k l.length i) := by
      refine Lib.hid ?_
      unfold cellOf
      rw [HY.out.1, HP.out.2, if_neg hlz, hqq, hii]
    rw [hii] at hand2
    obtain ⟨s, hs⟩ : ∃ s, 2 ^ lng l F l.length k = s := ⟨_, rfl⟩
    rw [hs] at hlk hs15 hs0 hCk hand2 hilt
    rw [show ((s - 1 : Nat) : Int) = (s : Int) - 1 by omega] at hand2
    have hsi : (s : Int) ≤ 32768 := by omega
    have hsi1 : 1 ≤ (s : Int) := by omega
    have y0 := hCk.cell cl_len i 0 hilt (by omega)
    have y1 := hCk.cell cl_len i 1 hilt (by omega)
    simp only [Cl, List.getElem?_cons_zero, List.getElem?_cons_succ, Nat.add_zero] at y0 y1
    obtain ⟨c0', hz0⟩ : ∃ z, (cellM l F k l.length i).1 = z := ⟨_, rfl⟩
    obtain ⟨c1', hz1⟩ : ∃ z, (cellM l F k l.length i).2 = z := ⟨_, rfl⟩
    rw [hz0] at y0
    rw [hz1] at y1
    have HC : Hid (cellOf l F (x % 2 ^ m) = (c0', c1')) := Lib.hid (by rw [HC.out, ← hz0, ← hz1])
    have hqi : (qq : Int) ≤ 32767 := by omega
    have hii2 : (i : Int) < (s : Int) := by omega
    clear hlz hl15 hs15 hs0 hCk hqq hqle hii hs hz0 hz1
    go_quiet (fail)
    have HFR := Lib.hid (Fr.of_below (((Fr.setCell (W6.drewN nq) g 0 (.int .i64 (c0' : Int))).trans (Fr.setCell _ g 1 (.int .i64 (c1' : Int)))).out (HG.out.1.trans (Fr.drewN _ _ nq)).below (by simp; exact HWG.out)) : Fr [] _ _)
    clear hlk
    by_cases q1 : c1' = 0
    · subst q1
      have HL := Lib.hid (show lookN l x m = (0, 0, 7) by rw [look_cell l F x m HT.out.2.2.2.2.1, HC.out, if_pos rfl])
      go_wp2_with fail
      rw [HL.out]
      refine bodyPost_ret (v := .tuple #[.int .i64 0, .int .i64 0, .int .i64 7]) (by simp [results, Try.results14, go_sem]) rfl ⟨rfl, HFR.out⟩
    · have q2 : ¬ (c1' : Int) = 0 := by omega
      by_cases q3 : m < c1'
      · have HL := Lib.hid (show lookN l x m = (0, 0, 6) by rw [look_cell l F x m HT.out.2.2.2.2.1, HC.out, if_neg q1, if_pos q3])
        have q4 : (m : Int) < (c1' : Int) := by omega
        clear q1 q3
        go_wp2_with fail
        rw [HL.out]
        refine bodyPost_ret (v := .tuple #[.int .i64 0, .int .i64 0, .int .i64 6]) (by simp [results, Try.results14, go_sem]) rfl ⟨rfl, HFR.out⟩
      · have HL := Lib.hid (show lookN l x m = (c0', c1', 0) by rw [look_cell l F x m HT.out.2.2.2.2.1, HC.out, if_neg q1, if_neg q3])
        have q4 : (c1' : Int) ≤ (m : Int) := by omega
        clear q1 q3
        go_wp2_with fail
        go_quiet (fail)
        go_wp2_with fail
        rw [HL.out]
        refine bodyPost_ret (v := .tuple #[.int .i64 (c0' : Int), .int .i64 (c1' : Int), .int .i64 0]) (by simp [results, Try.results14, go_sem]) rfl ⟨rfl, HFR.out.trans (Fr.drewN _ _ _)⟩
end Go.Proofs.Ytmnipgmheapfbaa

