/- Some answers that the document fixes (alive), of layer 7. -/
import Derived.Test.YtmnipgmheapfbaaHn
import Derived.Test.YtmnipgmheapfbaaHr
namespace Go.Proofs.Ytmnipgmheapfbaa
open Go.RowKit
set_option linter.unusedVariables false
set_option linter.unusedSimpArgs false

def brow (l : List Nat) : Obj := .cells (l.map fun (n : Nat) => Value.int .u8 (n : Int)).toArray 5
theorem sl_brow {w : World} {g : Nat} {l : List Nat} (h : w.heap[g]? = some (brow l)) : SlOf U8 1 w (some ⟨g, 0, none⟩) l := fun _ => by
  refine ⟨g, 0, rfl, lt_of h, fun i x hi j u hu => ?_⟩
  have hj : j = 0 := by
    have := (List.getElem?_eq_some_iff.1 hu).1
    simp [U8] at this
    exact this
  subst hj
  unfold brow at h
  rw [cell_of h]
  simp [U8] at hu
  subst hu
  simp [hi]
theorem k1_ : kindN [2, 1, 3, 3] = 2 := by decide
theorem k2_ : kindN [2, 2] = 3 := by decide
theorem k3_ : kindN [1] = 1 := by decide
theorem f1_ : Fine [2, 1, 3, 3] := ⟨by decide, by decide⟩
theorem f3_ : Fine [1] := ⟨by decide, by decide⟩
theorem al_new1 (g : Nat) (w : World) (h : w.heap[g]? = some (.cells #[.int .u8 2, .int .u8 1, .int .u8 3, .int .u8 3] 5 (0, 0))) :
    Calls Try.prog 9 #[.slice (some ⟨g, 0, none⟩) 4 4, .int .i64 2] w fun e w' => ∃ tb, e = .returned (.tuple #[.pointer (some ⟨tb, 0, none⟩), .int .i64 0]) ∧ w.heap.size ≤ tb ∧ Tb w' w'.heap.size tb [2, 1, 3, 3] 2 ∧ Fr [] w w' :=
  hnew_any (some ⟨g, 0, none⟩) 4 [2, 1, 3, 3] 2 w (sl_brow h) (by decide) (by decide) (by decide) (by decide) (by decide) (by decide) (by decide)
theorem al_new2 (g : Nat) (w : World) (h : w.heap[g]? = some (.cells #[.int .u8 2, .int .u8 2] 5 (0, 0))) :
    Calls Try.prog 9 #[.slice (some ⟨g, 0, none⟩) 2 2, .int .i64 9] w fun e w' => e = .returned (.tuple #[.pointer none, .int .i64 7]) ∧ Fr [] w w' :=
  hnew_form (some ⟨g, 0, none⟩) 2 [2, 2] 9 w (sl_brow h) (by decide) (by decide) (by decide) (by decide) (.inr k2_)
theorem al_new3 (g : Nat) (w : World) (h : w.heap[g]? = some (.cells #[.int .u8 1] 5 (0, 0))) :
    Calls Try.prog 9 #[.slice (some ⟨g, 0, none⟩) 1 1, .int .i64 3] w fun e w' => ∃ tb, e = .returned (.tuple #[.pointer (some ⟨tb, 0, none⟩), .int .i64 0]) ∧ w.heap.size ≤ tb ∧ Tb w' w'.heap.size tb [1] 3 ∧ Fr [] w w' :=
  hnew_any (some ⟨g, 0, none⟩) 1 [1] 3 w (sl_brow h) (by decide) (by decide) (by decide) (by decide) (by decide) (by decide) (by decide)
theorem al_writes (g : Nat) (w : World) (h : w.heap[g]? = some (.cells #[.int .u8 2, .int .u8 1, .int .u8 3, .int .u8 3] 5 (0, 0))) :
    Calls Try.prog 11 #[.slice (some ⟨g, 0, none⟩) 4 4] w fun e w' => ∃ g', e = .returned (.tuple #[.slice (some ⟨g', 0, none⟩) 4 4, .int .i64 0]) ∧ w'.cell? ⟨g', 0, none⟩ = some (.int .u32 1) ∧ w'.cell? ⟨g', 4, none⟩ = some (.int .u32 3) ∧ Fr [] w w' :=
  (hwrites_any (some ⟨g, 0, none⟩) 4 [2, 1, 3, 3] w (sl_brow h) (by decide) (by decide) (by decide) (by decide)).mono fun e w' ⟨g', he, _, hP, hf⟩ => ⟨g', he, hP.cell cd_len 0 0 (by decide) (by decide), hP.cell cd_len 2 0 (by decide) (by decide), hf⟩
theorem al_look (tb hi : Nat) (l : List Nat) (F x h : Nat) (w : World) (hT : Tb w hi tb l F) (hf : Fine l) (hl : l.length ≤ 320) (hF : F ≤ 15) (hx : x < 18446744073709551616) (hh : h ≤ 15) (a b : Nat) (c : Int) (hr : lookN l x h = (a, b, c)) :
    Calls Try.prog 14 #[.pointer (some ⟨tb, 0, none⟩), .int .u64 (x : Int), .int .i64 (h : Int)] w fun e w' => e = .returned (.tuple #[.int .i64 (a : Int), .int .i64 (b : Int), .int .i64 c]) ∧ Fr [] w w' := by
  have := look_any tb l F hi x (h : Int) w hT hf hl hF hx (by omega) (by omega)
  rw [show min ((h : Nat) : Int).toNat 15 = h by omega, hr] at this
  exact this
theorem al_cells (tb hi : Nat) (w : World) (hT : Tb w hi tb [2, 1, 3, 3] 2) : Calls Try.prog 16 #[.pointer (some ⟨tb, 0, none⟩)] w fun e w' => e = .returned (.int .i64 6) ∧ Fr [] w w' := by
  have := cells_any tb [2, 1, 3, 3] 2 hi w hT f1_ (by decide)
  rw [show cellsN [2, 1, 3, 3] 2 = 6 by decide] at this
  exact this

set_option maxRecDepth 2000000 in
set_option maxHeartbeats 3200000 in
theorem alive_any (w : World) : Calls Try.prog 8 #[] w fun e w' => e = .returned (.bool true) ∧ Fr [] w w' := by
  have hb0 := new_of w (.cells #[.int .u8 2, .int .u8 1, .int .u8 3, .int .u8 3] 5)
  have hf0 := Fr.alloc [] w (.cells #[.int .u8 2, .int .u8 1, .int .u8 3, .int .u8 3] 5)
  have H0 := Lib.hid (And.intro hb0 hf0)
  clear hb0 hf0
  go_enter Try.func8, Try.ntmps8
  go_wp2_with fail
  refine (al_new1 _ _ H0.out.1).mono ?_
  rintro e w1 ⟨tb, rfl, _, hT, f1⟩
  have HT := Lib.hid hT
  have HF1 := Lib.hid (H0.out.2.trans f1)
  clear hT f1 H0
  go_wp2_with fail
  refine (al_look tb _ _ _ 3 2 _ HT.out f1_ (by decide) (by decide) (by decide) (by decide) 0 0 6 (by decide)).mono ?_
  rintro e w2 ⟨rfl, f2⟩
  have HF2 := Lib.hid f2
  clear f2
  go_wp2_with fail
  refine (al_look tb _ _ _ 3 3 _ (HT.out.to HF2.out (by simp)) f1_ (by decide) (by decide) (by decide) (by decide) 2 3 0 (by decide)).mono ?_
  rintro e w3 ⟨rfl, f3⟩
  have HF3 := Lib.hid (HF2.out.trans f3)
  clear f3 HF2
  go_wp2_with fail
  refine (al_look tb _ _ _ 0 1 _ (HT.out.to HF3.out (by simp)) f1_ (by decide) (by decide) (by decide) (by decide) 1 1 0 (by decide)).mono ?_
  rintro e w4 ⟨rfl, f4⟩
  have HF4 := Lib.hid (HF3.out.trans f4)
  have HB4 := Lib.hid (new_of w4 (.cells #[.int .u8 2, .int .u8 2] 5))
  clear f4 HF3
  go_wp2_with fail
  refine (al_new2 _ _ HB4.out).mono ?_
  rintro e w5 ⟨rfl, f5⟩
  have HF5 := Lib.hid ((HF4.out.trans (Fr.alloc _ _ _)).trans f5)
  have HB5 := Lib.hid (new_of w5 (.cells #[.int .u8 2, .int .u8 1, .int .u8 3, .int .u8 3] 5))
  clear f5 HF4 HB4
  go_wp2_with fail
  refine (al_writes _ _ HB5.out).mono ?_
  rintro e w6 ⟨gw, rfl, c0, c4, f6⟩
  have HF6 := Lib.hid ((HF5.out.trans (Fr.alloc _ _ _)).trans f6)
  have HC := Lib.hid (And.intro c0 c4)
  have HG := Lib.hid (block_lt_of_cell c0)
  have HB6 := Lib.hid (new_of w6 (.cells #[.int .u8 1] 5))
  clear f6 HF5 HB5 c0 c4
  go_wp2_with fail
  refine (al_new3 _ _ HB6.out).mono ?_
  rintro e w7 ⟨tb2, rfl, _, hT2, f7⟩
  have HT2 := Lib.hid hT2
  have HF7 := Lib.hid ((Fr.alloc [] _ _).trans f7)
  clear f7 hT2 HB6
  go_wp2_with fail
  refine (al_look tb2 _ _ _ 1 1 _ HT2.out f3_ (by decide) (by decide) (by decide) (by decide) 0 0 7 (by decide)).mono ?_
  rintro e w8 ⟨rfl, f8⟩
  have HF8 := Lib.hid (HF7.out.trans f8)
  clear f8
  have k0 : w8.cell? ⟨gw, 0, none⟩ = some (.int .u32 1) := by rw [HF8.out.below.cell (p := ⟨gw, 0, none⟩) HG.out]; exact HC.out.1
  have k4 : w8.cell? ⟨gw, 4, none⟩ = some (.int .u32 3) := by rw [HF8.out.below.cell (p := ⟨gw, 4, none⟩) HG.out]; exact HC.out.2
  go_wp2_with fail
  refine (al_cells tb _ _ ((HT.out.to HF6.out (by simp)).to HF8.out (by simp))).mono ?_
  rintro e w9 ⟨rfl, f9⟩
  have HF9 := Lib.hid f9
  clear f9
  go_wp2_with fail
  go_ret
  exact ⟨rfl, ((HF1.out.trans HF6.out).trans HF8.out).trans HF9.out⟩
end Go.Proofs.Ytmnipgmheapfbaa

