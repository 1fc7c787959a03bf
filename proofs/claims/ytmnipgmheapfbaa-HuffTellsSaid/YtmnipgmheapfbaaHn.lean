/- A table is made: huff.New. -/
import Derived.Test.YtmnipgmheapfbaaHm
namespace Go.Proofs.Ytmnipgmheapfbaa
open Go.RowKit
open Go.Maps (Keyed)
set_option linter.unusedVariables false
set_option linter.unusedSimpArgs false

set_option maxRecDepth 2000000 in
set_option maxHeartbeats 1600000 in
theorem hnew_arg (a : Option Addr) (c : Nat) (l : List Nat) (f : Int) (w : World) (hs : SlOf U8 1 w a l) (hl : l.length ≤ 9223372036854775807) (h8 : ∀ x ∈ l, x < 256) (hf0 : -9223372036854775808 ≤ f) (hf1 : f ≤ 9223372036854775807) (hk : f < 1 ∨ 15 < f ∨ kindN l = 5) :
    Calls Try.prog 9 #[.slice a l.length c, .int .i64 f] w fun e w' => e = .returned (.tuple #[.pointer none, .int .i64 2]) ∧ Fr [] w w' := by
  have HT := Lib.hid (kind_any a c l w hs hl h8)
  clear hs hl h8
  obtain ⟨q, hq⟩ : ∃ q, kindN l = q := ⟨_, rfl⟩
  rw [hq] at hk HT
  clear hq
  by_cases h1 : f < 1
  · clear hk
    go_enter Try.func9, Try.ntmps9
    go_wp2_with fail
    refine HT.out.mono ?_
    rintro e w1 ⟨rfl, f1⟩
    have HF := Lib.hid f1
    clear f1 HT
    go_wp2_with fail
    go_ret2
    exact ⟨rfl, HF.out⟩
  · have h1' : 1 ≤ f := by omega
    by_cases h2 : 15 < f
    · clear hk h1
      go_enter Try.func9, Try.ntmps9
      go_wp2_with fail
      refine HT.out.mono ?_
      rintro e w1 ⟨rfl, f1⟩
      have HF := Lib.hid f1
      clear f1 HT
      go_wp2_with fail
      go_ret2
      exact ⟨rfl, HF.out⟩
    · have h2' : f ≤ 15 := by omega
      have hq5 : q = 5 := by omega
      subst hq5
      clear hk h1 h2
      go_enter Try.func9, Try.ntmps9
      go_wp2_with fail
      refine HT.out.mono ?_
      rintro e w1 ⟨rfl, f1⟩
      have HF := Lib.hid f1
      clear f1 HT
      go_wp2_with fail
      go_ret2
      exact ⟨rfl, HF.out⟩
set_option maxRecDepth 2000000 in
set_option maxHeartbeats 1600000 in
theorem hnew_form (a : Option Addr) (c : Nat) (l : List Nat) (f : Int) (w : World) (hs : SlOf U8 1 w a l) (hl : l.length ≤ 9223372036854775807) (h8 : ∀ x ∈ l, x < 256) (hf0 : 1 ≤ f) (hf1 : f ≤ 15) (hk : kindN l = 4 ∨ kindN l = 3) :
    Calls Try.prog 9 #[.slice a l.length c, .int .i64 f] w fun e w' => e = .returned (.tuple #[.pointer none, .int .i64 7]) ∧ Fr [] w w' := by
  have HT := Lib.hid (kind_any a c l w hs hl h8)
  clear hs hl h8
  obtain ⟨q, hq⟩ : ∃ q, kindN l = q := ⟨_, rfl⟩
  rw [hq] at hk HT
  clear hq
  rcases hk with rfl | rfl
  all_goals
    go_enter Try.func9, Try.ntmps9
    go_wp2_with fail
    refine HT.out.mono ?_
    rintro e w1 ⟨rfl, f1⟩
    have HF := Lib.hid f1
    clear f1 HT
    go_wp2_with fail
    go_ret2
    exact ⟨rfl, HF.out⟩
end Go.Proofs.Ytmnipgmheapfbaa

