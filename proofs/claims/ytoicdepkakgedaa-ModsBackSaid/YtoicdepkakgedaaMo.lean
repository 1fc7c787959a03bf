/- The small known case of layer 18: what 'alive' answers. -/
import Derived.Test.YtoicdepkakgedaaMn
namespace Go.Proofs.Ytoicdepkakgedaa
open Go.RowKit
set_option linter.unusedVariables false
set_option linter.unusedSimpArgs false

set_option maxRecDepth 2000000 in
set_option maxHeartbeats 3200000 in
theorem alive_any (w : World) : Calls Try.prog 11 #[] w fun e w' => e = .returned (.bool true) ∧ Fr [] w w' := by
  have h1 : ∀ W a0 c, SlOf Md.enc 2 W a0 exE → Calls Try.prog 12 #[.int .i64 1024, .slice a0 1 c] W fun e w' => e = .returned (.tuple #[.string ⟨#[2, 1, 2, 0, 97, 98]⟩, .int .i64 0]) ∧ Fr [] W w' := fun W a0 c h => by
    have := encode_any 1024 a0 c exE W h (by decide) (by decide +kernel)
    rw [ex_enc.1, ex_enc.2] at this; exact this
  have h2 : ∀ W, Calls Try.prog 30 #[.int .i64 1024, .int .u8 97] W fun e w' => e = .returned (.string (blankS 1024 97)) ∧ Fr [] W w' := fun W => blank_any 1024 97 W (by decide)
  have h3 : ∀ W a0 c, SlOf Md.enc 2 W a0 exL → Calls Try.prog 14 #[.string (blankS 1024 97), .slice a0 3 c] W fun e w' => e = .returned (.tuple #[.string exB, .int .i64 0]) ∧ Fr [] W w' := fun W a0 c h => by
    have := apply_any (blankS 1024 97) a0 c exL W h (by decide) (by decide +kernel) (by rw [ex_size]; decide)
    rw [ex_app.1, ex_app.2] at this; exact this
  have h4 : ∀ W, Calls Try.prog 25 #[.string (blankS 1024 97), .string exB] W fun e w' => ∃ a0 cap, e = .returned (.tuple #[.slice a0 2 cap, .int .i64 0]) ∧ SlOf Md.enc 2 w' a0 exD ∧ Fr [] W w' := fun W => by
    refine (diff_any (blankS 1024 97) exB W (by rw [ex_size]; decide) (by rw [ex_sizeB]; decide)).mono ?_
    rintro e w' ⟨v, rfl, h1, h2⟩
    rw [ex_diff.1] at h1
    rw [ex_diff.2]
    obtain ⟨a0, cap, rfl, h3⟩ := slOf_own md_len h1 rfl
    exact ⟨a0, cap, rfl, h3, h2⟩
  have h5 : ∀ W, Calls Try.prog 22 #[.int .i64 1024, .string ⟨#[97, 98, 99]⟩] W fun e w' => ∃ v, e = .returned (.tuple #[v, .int .i64 7]) ∧ Fr [] W w' := fun W => by
    refine (decode_any 1024 ⟨#[97, 98, 99]⟩ W (by decide)).mono ?_
    rintro e w' ⟨v, rfl, h1, h2⟩
    rw [ex_dec]
    exact ⟨v, rfl, h2⟩
  have h6 : ∀ W, Calls Try.prog 14 #[.string ⟨#[97]⟩, .slice none 0 0] W fun e w' => ∃ v, e = .returned (.tuple #[v, .int .i64 2]) ∧ Fr [] W w' := fun W => by
    refine (apply_any ⟨#[97]⟩ none 0 [] W (fun h => absurd rfl h) (by decide) (by decide) (by decide)).mono ?_
    rintro e w' ⟨rfl, h2⟩
    rw [ex_app2]
    exact ⟨_, rfl, h2⟩
  have h7 : ∀ W a0 c a1 c1, SlOf Md.enc 2 W a0 exD → SlOf Md.enc 2 W a1 exD → Calls Try.prog 23 #[.slice a0 2 c, .slice a1 2 c1] W fun e w' => e = .returned (.bool true) ∧ Fr [] W w' := fun W a0 c a1 c1 h k => by
    have := same_any a0 a1 c c1 exD exD W h k (by decide) (by decide)
    rw [decide_eq_true rfl] at this; exact this
  have h8 : ∀ W a0 c, SlOf Md.enc 2 W a0 exD → Calls Try.prog 20 #[.slice a0 2 c] W fun e w' => e = .returned (.int .i64 12) ∧ Fr [] W w' := fun W a0 c h => by
    have := size_any a0 c exD W h (by decide) (by rw [ex_n]; decide)
    rw [ex_n] at this; exact this
  have h9 : ∀ W, Calls Try.prog 18 #[.int .i64 16384] W fun e w' => e = .returned (.bool true) ∧ W = w' := fun W => by
    have := page_any 16384 W; rw [ex_pages.1] at this; exact this
  have h10 : ∀ W, Calls Try.prog 18 #[.int .i64 1000] W fun e w' => e = .returned (.bool false) ∧ W = w' := fun W => by
    have := page_any 1000 W; rw [ex_pages.2.1] at this; exact this
  have H := Lib.hid (And.intro h1 (And.intro h2 (And.intro h3 (And.intro h4 (And.intro h5 (And.intro h6 (And.intro h7 (And.intro h8 (And.intro h9 h10)))))))))
  have HE := Lib.hid (fun W : World => (slOf_cells (l := exE) md_len (new_of W (.cells #[.int .i64 258, .string ⟨#[97, 98]⟩] 34)) rfl : SlOf Md.enc 2 _ _ exE))
  have HL := Lib.hid (fun W : World => (slOf_cells (l := exL) md_len (new_of W (.cells #[.int .i64 3, .string ⟨#[120]⟩, .int .i64 5, .string ⟨#[121]⟩, .int .i64 20, .string ⟨#[122]⟩] 34)) rfl : SlOf Md.enc 2 _ _ exL))
  have HD := Lib.hid (fun W : World => (slOf_cells (l := exD) md_len (new_of W (.cells #[.int .i64 3, .string ⟨#[120, 97, 121]⟩, .int .i64 20, .string ⟨#[122]⟩] 34)) rfl : SlOf Md.enc 2 _ _ exD))
  clear h1 h2 h3 h4 h5 h6 h7 h8 h9 h10
  generalize blankS 1024 97 = A at *
  generalize exB = B at *
  go_enter Try.func11, Try.ntmps11
  go_wp2_with fail
  refine (H.out.1 _ _ _ (HE.out _)).mono ?_
  rintro e w1 ⟨rfl, f1⟩
  have F1 := Lib.hid ((Fr.alloc [] w _).trans f1)
  clear f1
  go_wp2_with fail
  refine (H.out.2.1 _).mono ?_
  rintro e w2 ⟨rfl, f2⟩
  have F2 := Lib.hid (F1.out.trans f2)
  clear f2
  go_wp2_with fail
  refine (H.out.2.2.1 _ _ _ (HL.out _)).mono ?_
  rintro e w3 ⟨rfl, f3⟩
  have F3 := Lib.hid (F2.out.trans ((Fr.alloc [] w2 _).trans f3))
  clear f3
  go_wp2_with fail
  refine (H.out.2.2.2.1 _).mono ?_
  rintro e w4 ⟨a0, cap, rfl, s4, f4⟩
  have F4 := Lib.hid (F3.out.trans f4)
  have S4 := Lib.hid s4
  clear f4 s4
  go_wp2_with fail
  refine (H.out.2.2.2.2.1 _).mono ?_
  rintro e w5 ⟨v5, rfl, f5⟩
  have F5 := Lib.hid (F4.out.trans f5)
  have S5 := Lib.hid (S4.out.to f5)
  clear f5
  go_wp2_with fail
  refine (H.out.2.2.2.2.2.1 _).mono ?_
  rintro e w6 ⟨v6, rfl, f6⟩
  have F6 := Lib.hid (F5.out.trans f6)
  have S6 := Lib.hid (S5.out.to f6)
  clear f6
  go_wp2_with fail
  refine (H.out.2.2.2.2.2.2.1 _ _ _ _ _ (S6.out.to (Fr.alloc [] w6 _)) (HD.out _)).mono ?_
  rintro e w7 ⟨rfl, f7⟩
  have F7 := Lib.hid (F6.out.trans ((Fr.alloc [] w6 _).trans f7))
  have S7 := Lib.hid ((S6.out.to (Fr.alloc [] w6 _)).to f7)
  clear f7
  go_wp2_with fail
  refine (H.out.2.2.2.2.2.2.2.1 _ _ _ S7.out).mono ?_
  rintro e w8 ⟨rfl, f8⟩
  have F8 := Lib.hid (F7.out.trans f8)
  clear f8
  go_wp2_with fail
  refine (H.out.2.2.2.2.2.2.2.2.1 _).mono ?_
  rintro e w9 ⟨rfl, rfl⟩
  go_wp2_with fail
  refine (H.out.2.2.2.2.2.2.2.2.2 _).mono ?_
  rintro e w9 ⟨rfl, rfl⟩
  go_wp2_with fail
  go_ret
  exact ⟨rfl, F8.out⟩
end Go.Proofs.Ytoicdepkakgedaa
