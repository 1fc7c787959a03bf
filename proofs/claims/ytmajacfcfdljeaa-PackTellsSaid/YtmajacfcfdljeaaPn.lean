/- PackMore: its walk. -/
import Derived.Test.YtmajacfcfdljeaaPm
import Derived.BigRegion
namespace Go.Proofs.Ytmajacfcfdljeaa
open Go.RowKit
set_option linter.unusedVariables false
set_option linter.unusedSimpArgs false

theorem nrow_put {w : World} {g n j y : Nat} {F : Nat → Nat} (h : Nrow w g 3 .i64 n (fun s => if s < j then F s else 0)) (hF : F j = y) : Nrow (w.setCell ⟨g, j, none⟩ (.int .i64 (y : Int))) g 3 .i64 n (fun s => if s < j + 1 then F s else 0) :=
  h.set_ j y fun s _ => by
    by_cases e : s = j
    · subst e; simp [hF]
    · simp only [if_neg e]
      by_cases h2 : s < j
      · rw [if_pos h2, if_pos (by omega)]
      · rw [if_neg h2, if_neg (by omega)]
/-- Two rows of noughts, new. -/
def TwoMade (w : World) (n : Nat) (v9 v10 : Value) (wx : World) : Prop :=
  ∃ g9 g10, v9 = .slice (some ⟨g9, 0, none⟩) n n ∧ v10 = .slice (some ⟨g10, 0, none⟩) n n ∧ g9 ≠ g10 ∧ w.heap.size ≤ g9 ∧ w.heap.size ≤ g10 ∧ Nrow wx g9 3 .i64 n (fun _ => 0) ∧ Nrow wx g10 3 .i64 n (fun _ => 0) ∧ Fr [] w wx
theorem twoMade_a (w : World) (n : Nat) : TwoMade w n (.slice (some ⟨w.heap.size, 0, none⟩) n n) (.slice (some ⟨w.heap.size + 1, 0, none⟩) n n) ((w.alloc (.cells (madeCells #[.int .i64 0] n) 3)).alloc (.cells (madeCells #[.int .i64 0] n) 3)).drew := by
  have h1 := made_nats w n
  have h2 := made_nats (w.alloc (.cells (madeCells #[.int .i64 0] n) 3)) n
  rw [show (w.alloc (.cells (madeCells #[.int .i64 0] n) 3)).heap.size = w.heap.size + 1 from Array.size_push _] at h2
  have hA := Fr.alloc [] (w.alloc (.cells (madeCells #[.int .i64 0] n) 3)) (.cells (madeCells #[.int .i64 0] n) 3)
  exact ⟨_, _, rfl, rfl, by omega, by omega, by omega, (h1.to hA (by simp)).to (Fr.drew (Fr.refl [] _)) (by simp), h2.to (Fr.drew (Fr.refl [] _)) (by simp), ((Fr.alloc [] _ _).trans hA).drew⟩
theorem twoMade_b {w : World} {n : Nat} {v9 v10 : Value} {wx : World} (h : TwoMade w n v9 v10 wx) : TwoMade w n v10 v9 wx := by
  obtain ⟨g9, g10, h1, h2, h3, h4, h5, h6, h7, h8⟩ := h
  exact ⟨g10, g9, h2, h1, Ne.symm h3, h5, h4, h7, h6, h8⟩
theorem posN_times (F : Nat → Nat) (m : Nat) (hm : 1 ≤ m) : ∀ j, posN (fun s => m * F s) j = posN F j
  | 0 => rfl
  | j + 1 => by
    simp only [posN, posN_times F m hm j]
    by_cases h : 0 < F j
    · rw [if_pos h, if_pos (Nat.mul_pos (by omega) h)]
    · rw [if_neg h, if_neg (by rw [show F j = 0 by omega]; simp)]
theorem lens_row_list {w : World} {g n M : Nat} {F : Nat → Nat} (h : Nrow w g 5 .u8 n (lenS (ctL F n) M)) : SlOf U8 1 w (some ⟨g, 0, none⟩) (lensL (ctL F n) M) := nrow_list h (by unfold lensL; rw [ctL_len])
theorem lensL_len (F : Nat → Nat) (n M : Nat) : (lensL (ctL F n) M).length = n := by unfold lensL; rw [List.length_map, List.length_range, ctL_len]
theorem lensL_mem {F : Nat → Nat} {n M : Nat} (h1 : 1 ≤ M) (h15 : M ≤ 15) (hr : (sortC (ctL F n)).length ≤ 2 ^ M) : ∀ x ∈ lensL (ctL F n) M, x < 256 := fun z hz => by
  obtain ⟨s, _, rfl⟩ := List.mem_map.1 hz
  have := lens_fits (ctL F n) M h1 hr s
  omega
theorem room_of {F : Nat → Nat} {n M : Nat} (h : needN (posN F n : Int) ≤ M) : (sortC (ctL F n)).length ≤ 2 ^ M := by
  rw [← posN_sort]; exact need_room h
/-- Weigh, of lengths and counts that lie in rows of their own. -/
theorem weigh_row (gl g n M : Nat) (F : Nat → Nat) (w : World) (hl : Nrow w gl 5 .u8 n (lenS (ctL F n) M)) (hN : Nrow w g 3 .i64 n F) (hn : n ≤ 320) (hF : ∀ i, i < n → F i ≤ 1073741824) (h1 : 1 ≤ M) (h15 : M ≤ 15) (h : needN (posN F n : Int) ≤ M) :
    Calls Try.prog 15 #[.slice (some ⟨gl, 0, none⟩) n n, .slice (some ⟨g, 0, none⟩) n n] w fun e w' => e = .returned (.int .i64 (weighN (lensL (ctL F n) M) (ctL F n) : Nat)) ∧ Fr [] w w' := by
  have := weigh_any (some ⟨gl, 0, none⟩) (some ⟨g, 0, none⟩) n n (lensL (ctL F n) M) (ctL F n) w (lens_row_list hl) (sl_irow hN) (by rw [lensL_len]; omega) (by omega) (by rw [ctL_len]; omega) (by rw [lensL_len]; omega) (lensL_mem h1 h15 (room_of h)) (fun x hx => by have := ctL_mem hF x hx; omega)
  rw [lensL_len, ctL_len] at this
  exact this
/-- What holds at the head of a round of the loop that fills both rows. -/
def FillT (w : World) (g9 g10 n m : Nat) (F : Nat → Nat) (v11 : Value) (wr : World) : Prop :=
  ∃ j : Nat, v11 = .int .i64 (j : Int) ∧ j ≤ n ∧ Nrow wr g9 3 .i64 n (fun s => if s < j then F s else 0) ∧ Nrow wr g10 3 .i64 n (fun s => if s < j then m * F s else 0) ∧ Fr [] w wr
set_option maxRecDepth 2000000 in
set_option maxHeartbeats 6400000 in
theorem packMore_walk (w : World) (a0 : Option Addr) (c0 : Nat) (x0 : List Nat) (l0 : x0.length ≤ maxLen) (s0 : SlOf (Un .u16) 1 w a0 x0) (o0 : ∀ x, x ∈ x0 → x < 65536) (a1 : Int) (w1 : (Lit.int .u8 a1).wf = true) (a2 : Int) (w2 : (Lit.int .u8 a2).wf = true) :
    Calls Try.prog 5 #[.slice a0 x0.length c0, .int .u8 a1, .int .u8 a2] w fun e w' => e = .returned (.bool true) ∧ Below w.heap.size w w' := by
  unfold maxLen at l0
  have hl1 : (x0.length : Int) ≤ 9223372036854775807 := by omega
  have HA := Lib.hid alive_any
  have ha1 : 0 ≤ a1 ∧ a1 ≤ 255 := by simp [Lit.wf, IntKind.min, IntKind.max, IntKind.signed, IntKind.bits] at w1; omega
  have ha2 : 0 ≤ a2 ∧ a2 ≤ 255 := by simp [Lit.wf, IntKind.min, IntKind.max, IntKind.signed, IntKind.bits] at w2; omega
  obtain ⟨ha3, ha4⟩ := ha1
  obtain ⟨ha5, ha6⟩ := ha2
  clear w1 w2
  by_cases hbig : 100 < x0.length
  · have h1 : (100 : Int) < (x0.length : Int) := by omega
    clear hbig s0 o0 l0
    go_enter Try.func5, Try.ntmps5
    go_wp2_with fail
    refine (HA.out _).mono ?_
    rintro e w1 ⟨rfl, hf⟩
    have HF := Lib.hid hf
    clear hf
    go_wp2_with fail
    go_ret
    exact ⟨rfl, HF.out.below⟩
  obtain ⟨n, hn⟩ : ∃ n, x0.length = n := ⟨_, rfl⟩
  rw [hn] at hbig hl1 ⊢
  have h1 : (n : Int) ≤ 100 := by omega
  obtain ⟨q, hq⟩ : ∃ q : Nat, a1 % 14 = (q : Int) := ⟨(a1 % 14).toNat, by omega⟩
  have hq14 : q ≤ 13 := by omega
  obtain ⟨M, hM⟩ : ∃ M, q + 1 = M := ⟨_, rfl⟩
  have hqi : (q : Int) ≤ 13 := by omega
  have eM : (q : Int) + 1 = (M : Int) := by omega
  obtain ⟨p, hp⟩ : ∃ p : Nat, a2 % 9 = (p : Int) := ⟨(a2 % 9).toNat, by omega⟩
  have hp8 : p ≤ 8 := by omega
  obtain ⟨m, hm⟩ : ∃ m, p + 1 = m := ⟨_, rfl⟩
  have hpi : (p : Int) ≤ 8 := by omega
  have em : (p : Int) + 1 = (m : Int) := by omega
  have hm1 : 1 ≤ (m : Int) := by omega
  have hm9 : (m : Int) ≤ 9 := by omega
  have hM14 : (M : Int) ≤ 14 := by omega
  have hM1 : 1 ≤ (M : Int) := by omega
  obtain ⟨M2, hM2⟩ : ∃ M2, M + 1 = M2 := ⟨_, rfl⟩
  have eM2 : (M : Int) + 1 = (M2 : Int) := by omega
  obtain ⟨F, hF⟩ : ∃ F : Nat → Nat, F = fun s => x0.getD s 0 := ⟨_, rfl⟩
  have hFb : ∀ s, F s ≤ 65535 := fun s => by
    rw [hF]
    simp only [List.getD_eq_getElem?_getD]
    cases hs : x0[s]? with
    | none => simp
    | some x => have := o0 x (List.mem_of_getElem? hs); simp only [Option.getD_some]; omega
  have HX := Lib.hid (And.intro s0 (And.intro o0 (And.intro hn (And.intro hF (And.intro hFb (And.intro hM2 hbig))))))
  have hmk := fun W => run_make_nats W n (by omega)
  clear s0 o0 hn hF hFb hbig l0 hq14 hM hp8 hm hM2
  go_enter Try.func5, Try.ntmps5
  go_upto_region 5 with fail
  go_cut [9, 10] from 30 to 35 (fun v9 v10 wx => TwoMade w n v9 v10 wx)
  case first =>
    go_wp2_with fail
    go_region
    all_goals go_wp2_with fail
    all_goals go_meet
    case rel => exact twoMade_a w n
    case rel => exact twoMade_b (twoMade_a w n)
  case rest =>
  obtain ⟨g9, g10, rfl, rfl, hne, hg9, hg10, hN9, hN10, hfc⟩ := hcut
  have HN := Lib.hid (And.intro hN9 (And.intro hN10 (And.intro hfc (And.intro hne (And.intro hg9 hg10)))))
  clear hN9 hN10 hfc hmk hg9 hg10
  go_wp2_with fail
  go_loopw [11] (fun v11 wr => FillT w g9 g10 n m F v11 wr) (fun v11 _ => n - (intOf v11).toNat)
  case atStart => exact ⟨0, rfl, Nat.zero_le _, HN.out.1.congr fun s _ => by simp, HN.out.2.1.congr fun s _ => by simp, HN.out.2.2.1⟩
  case round =>
    obtain ⟨j, rfl, hj, hA9, hA10, hf⟩ := hrel
    by_cases hjn : j < n
    · have hji : (j : Int) < (n : Int) := by omega
      obtain ⟨x, hx⟩ : ∃ x, x0[j]? = some x := ⟨x0[j]'(by have := HX.out.2.2.1; omega), List.getElem?_eq_getElem _⟩
      have hx16 := HX.out.2.1 x (List.mem_of_getElem? hx)
      have hlt9 := lt_of hA9
      have hlt10 := lt_of hA10
      obtain ⟨g1, o1, rfl, hb1, hc1⟩ := HX.out.1 (by intro h; rw [h] at hx; simp at hx)
      have c0 := hc1 j x hx 0 (.int .u16 (x : Int)) rfl
      rw [Nat.mul_one, Nat.add_zero] at c0
      have c1 : wr.cell? ⟨g1, o1 + j, none⟩ = some (.int .u16 (x : Int)) := by rw [hf.below.cell (p := ⟨g1, o1 + j, none⟩) hb1]; exact c0
      have hFj : F j = x := by rw [HX.out.2.2.2.1]; simp only [List.getD_eq_getElem?_getD, hx, Option.getD_some]
      obtain ⟨u, hu⟩ : ∃ u, m * x = u := ⟨_, rfl⟩
      have eu : (m : Int) * (x : Int) = (u : Int) := by rw [← hu]; exact (Int.natCast_mul m x).symm
      have hub : u ≤ 9 * 65535 := by rw [← hu]; exact Nat.mul_le_mul (by omega) (by omega)
      have hub2 : (u : Int) ≤ 589815 := by omega
      have hx9 : (x : Int) ≤ 65535 := by omega
      have hd9 := hA9.cell j hjn
      have hd10 := hA10.cell j hjn
      have fz9 := free_of hA9 j
      have fz10 := free_of hA10 j
      simp only [Nat.lt_irrefl, if_false] at hd9 hd10
      have hs9 := nrow_put hA9 hFj
      have hs10 := nrow_put (hA10.to (Fr.setCell wr g9 j (.int .i64 (x : Int))) (by simpa using Ne.symm HN.out.2.2.2.1)) (F := fun s => m * F s) (show m * F j = u by rw [hFj]; exact hu)
      have hfS := (Fr.setCell wr g9 j (.int .i64 (x : Int))).outL hf (fun i hi => .inr (by simp at hi; rw [hi]; exact HN.out.2.2.2.2.1))
      have hg1w : g1 < w.heap.size := hb1
      have hn91 : g9 ≠ g1 := by have := HN.out.2.2.2.2.1; omega
      have hn101 : g10 ≠ g1 := by have := HN.out.2.2.2.2.2; omega
      have c1' : (wr.setCell ⟨g9, j, none⟩ (.int .i64 (x : Int))).cell? ⟨g1, o1 + j, none⟩ = some (.int .u16 (x : Int)) := by
        rw [hfS.below.cell (p := ⟨g1, o1 + j, none⟩) hb1]; exact c0
      have d10' := (hA10.to (Fr.setCell wr g9 j (.int .i64 (x : Int))) (by simpa using Ne.symm HN.out.2.2.2.1)).cell j hjn
      have fz10' := free_of (hA10.to (Fr.setCell wr g9 j (.int .i64 (x : Int))) (by simpa using Ne.symm HN.out.2.2.2.1)) j
      simp only [Nat.lt_irrefl, if_false] at d10'
      have HS := Lib.hid (And.intro (hs9.to (Fr.setCell _ g10 j (.int .i64 (u : Int))) (by simpa using HN.out.2.2.2.1)) (And.intro hs10 hfS))
      clear hs9 hs10 hfS hf hFj hx hc1 hx16 hA9 hA10 hu hub c0
      go_wp2_with fail
      go_roundw
      case rel => exact ⟨j + 1, by go_num, by omega, HS.out.1, HS.out.2.1, (Fr.setCell _ g10 j _).outL HS.out.2.2 (fun i hi => .inr (by simp at hi; rw [hi]; exact HN.out.2.2.2.2.2))⟩
      case measure => simp [intOf]; omega
    · have hje : j = n := by omega
      subst hje
      have hB9 := hA9.congr (G := F) fun s hs => by simp only [if_pos hs]
      have hB10 := hA10.congr (G := fun s => m * F s) fun s hs => by simp only [if_pos hs]
      have hFb := HX.out.2.2.2.2.1
      have hM2 := HX.out.2.2.2.2.2.1
      have hm1' : 1 ≤ m := by omega
      have hFm : ∀ i, i < j → m * F i ≤ 1073741824 := fun i _ => Nat.le_trans (Nat.mul_le_mul (show m ≤ 9 by omega) (hFb i)) (by decide)
      have HL1 := Lib.hid (lens_row g9 j j M F wr hB9 (by omega) (fun i _ => by have := hFb i; omega) (by omega) (by omega))
      have HL2 := Lib.hid (fun W (f : Fr [] wr W) => lens_row g9 j j M2 F W (hB9.to f (by simp)) (by omega) (fun i _ => by have := hFb i; omega) (by omega) (by omega))
      have HL3 := Lib.hid (fun W (f : Fr [] wr W) => lens_row g10 j j M (fun s => m * F s) W (hB10.to f (by simp)) (by omega) hFm (by omega) (by omega))
      have HF := Lib.hid (And.intro hB9 (And.intro hB10 hf))
      rw [posN_times F m hm1'] at HL3
      clear hA9 hA10 hB9 hB10 hf hj hjn hFm hFb
      go_wp2_with fail
      refine HL1.out.mono ?_
      rintro e w2 ⟨f2, ⟨hlt, rfl⟩ | ⟨hle, gl, rfl, hge, hN2⟩⟩
      · have F2 := Lib.hid f2
        have HB := Lib.hid hlt
        clear f2 hlt HL1
        go_wp2_with fail
        refine (HL2.out _ F2.out).mono ?_
        rintro e w3 ⟨f3, h3⟩
        have F3 := Lib.hid (F2.out.trans f3)
        have hv : ∃ v z, e = .returned (.tuple #[v, .int .i64 z]) := by
          rcases h3 with ⟨_, rfl⟩ | ⟨_, gl, rfl, _⟩
          · exact ⟨_, _, rfl⟩
          · exact ⟨_, _, rfl⟩
        obtain ⟨v, z, rfl⟩ := hv
        clear f3 h3
        go_wp2_with fail
        refine (HL3.out _ F3.out).mono ?_
        rintro e w4 ⟨f4, ⟨_, rfl⟩ | ⟨hle, _⟩⟩
        · have F4 := Lib.hid (F3.out.trans f4)
          clear f4
          go_wp2_with fail
          refine (HA.out _).mono ?_
          rintro e w5 ⟨rfl, f5⟩
          have F5 := Lib.hid ((HF.out.2.2.trans F4.out).trans f5)
          clear f5
          go_wp2_with fail
          go_ret
          exact ⟨rfl, F5.out.below⟩
        · have := HB.out; omega
      · have F2 := Lib.hid (And.intro f2 hN2)
        have HB := Lib.hid hle
        clear f2 hle HL1 hN2 hge
        go_wp2_with fail
        refine (HL2.out _ F2.out.1).mono ?_
        rintro e w3 ⟨f3, ⟨hlt, _⟩ | ⟨hle3, gl3, rfl, hge3, hN3⟩⟩
        · have := HB.out; omega
        have F3 := Lib.hid (And.intro f3 (And.intro hN3 hle3))
        clear f3 hN3 hge3 hle3
        go_wp2_with fail
        refine (HL3.out _ (F2.out.1.trans F3.out.1)).mono ?_
        rintro e w4 ⟨f4, ⟨hlt, _⟩ | ⟨_, gl4, rfl, hge4, hN4⟩⟩
        · have := HB.out; omega
        have F4 := Lib.hid (And.intro f4 hN4)
        clear f4 hN4 hge4
        have hfr : Fr [] w2 w4 := F3.out.1.trans F4.out.1
        have HFR := Lib.hid hfr
        have hsame : ∀ s, lenS (ctL (fun s => m * F s) j) M s = lenS (ctL F j) M s := fun s => by
          rw [times_ctL, lens_times _ m M s (by omega) (fun x hx => (ctL_mem (B := 65535) (fun i _ => HX.out.2.2.2.2.1 i) x hx).1)]
        have HSL := Lib.hid (al_same (some ⟨gl, 0, none⟩) (some ⟨gl4, 0, none⟩) j j j (lensL (ctL F j) M) w4 (lensL_len F j M) (lens_row_list (F2.out.2.to hfr (by simp))) (lens_row_list (F4.out.2.congr fun s _ => (hsame s).symm)) (by rw [lensL_len]; omega) (lensL_mem (by omega) (by omega) (room_of HB.out)))
        clear hfr hsame
        go_wp2_with fail
        refine HSL.out.mono ?_
        rintro e w5 ⟨rfl, f5⟩
        have F5 := Lib.hid (HFR.out.trans f5)
        have hc5 := HF.out.1.to (F2.out.1.trans F5.out) (by simp)
        have HW1 := Lib.hid (weigh_row gl3 g9 j M2 F w5 (F3.out.2.1.to (F4.out.1.trans f5) (by simp)) hc5 (by omega) (fun i _ => by have := HX.out.2.2.2.2.1 i; omega) (by have := HX.out.2.2.2.2.2.1; omega) (by have := HX.out.2.2.2.2.2.1; omega) F3.out.2.2)
        have HW2 := Lib.hid (fun W (f : Fr [] w5 W) => weigh_row gl g9 j M F W (F2.out.2.to (F5.out.trans f) (by simp)) (hc5.to f (by simp)) (by omega) (fun i _ => by have := HX.out.2.2.2.2.1 i; omega) (by omega) (by omega) HB.out)
        have hlw := lens_least (ctL F j) M2 M (by have := HX.out.2.2.2.2.2.1; omega) (by omega) (room_of F3.out.2.2) (room_of HB.out) (fun s => Nat.le_trans (lens_fits _ M (by omega) (room_of HB.out) s) (by have := HX.out.2.2.2.2.2.1; omega))
        obtain ⟨X1, hX1⟩ : ∃ X1, weighN (lensL (ctL F j) M2) (ctL F j) = X1 := ⟨_, rfl⟩
        obtain ⟨X2, hX2⟩ : ∃ X2, weighN (lensL (ctL F j) M) (ctL F j) = X2 := ⟨_, rfl⟩
        rw [hX1, hX2] at hlw
        rw [hX1] at HW1
        rw [hX2] at HW2
        have hlwd : decide (X2 < X1) = false := by simp; omega
        clear f5 hc5 hlw hX1 hX2 HSL
        go_wp2_with fail
        refine HW1.out.mono ?_
        rintro e w6 ⟨rfl, f6⟩
        have F6 := Lib.hid f6
        clear f6 HW1
        go_wp2_with fail
        refine (HW2.out _ F6.out).mono ?_
        rintro e w7 ⟨rfl, f7⟩
        have F7 := Lib.hid (F6.out.trans f7)
        clear f7 HW2
        go_wp2_with fail
        refine (HA.out _).mono ?_
        rintro e w8 ⟨rfl, f8⟩
        have F8 := Lib.hid ((HF.out.2.2.trans (F2.out.1.trans (F5.out.trans F7.out))).trans f8)
        clear f8
        go_wp2_with fail
        go_ret
        exact ⟨rfl, F8.out.below⟩
end Go.Proofs.Ytmajacfcfdljeaa
