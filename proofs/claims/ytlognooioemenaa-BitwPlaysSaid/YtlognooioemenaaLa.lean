/- A writer that a call itself has made; the known answers of chapter 02; the statement BitwNil. -/
import Derived.Test.YtlognooioemenaaBn
namespace Go.Proofs.Ytlognooioemenaa
open Go.RowKit
set_option linter.unusedVariables false
set_option linter.unusedSimpArgs false

/-- The writer's blocks are new since W; of what was there nothing has turned. -/
structure Own (W w : World) (b : Nat) (v : Value) : Prop where
  below : Below W.heap.size W w
  new : ∀ i, i ∈ wfp b v → W.heap.size ≤ i
theorem Own.step {W w w' : World} {b : Nat} {v v' : Value} (h : Own W w b v) (n : NewRow w v v') (f : Fr (wfp b v) w w') : Own W w' b v' :=
  ⟨f.out h.below h.new, fun i hi => by rcases n.mem i hi with h' | h'; exact h.new i h'; have := h.below.size; omega⟩
theorem Own.quiet {W w w' : World} {b : Nat} {v : Value} (h : Own W w b v) (f : Fr [] w w') : Own W w' b v := ⟨f.out h.below (by simp), h.new⟩
theorem Own.made {w w' : World} (f : Fr [] w w') : Own w w' w.heap.size (.slice none 0 0) := ⟨f.below, by simp [wfp, Value.ownBlock]⟩
theorem Own.made_in {W w w' : World} (h : Below W.heap.size W w) (f : Fr [] w w') : Own W w' w.heap.size (.slice none 0 0) := ⟨f.out h (by simp), by have := h.size; simp [wfp, Value.ownBlock, this]⟩

set_option maxRecDepth 100000 in
set_option maxHeartbeats 1600000 in
theorem alive02 (w : World) : Calls Try.prog 25 #[] w fun e w' => e = .returned (.bool true) ∧ Below w.heap.size w w' := by
  have t1 : wtext 5 3 = ⟨#[5]⟩ := by decide +kernel
  have t2 : wtext (5 + num ⟨#[97]⟩ * 2 ^ (3 + pad 3)) (3 + pad 3 + 8 * 1) = ⟨#[5, 97]⟩ := by decide +kernel
  have T1 := Lib.hid t1
  have T2 := Lib.hid t2
  clear t1 t2
  go_enter Try.func25, Try.ntmps25
  go_wp2_with fail
  refine (wnew_any 2 w (by decide)).mono ?_
  rintro e w1 ⟨rfl, h1, f1⟩
  have o1 := Own.made f1
  go_wp2_with fail
  refine (wbits_ok w.heap.size _ 0 0 2 1 1 w1 h1 (by decide) (by decide) (by decide) (by decide) (by decide)).mono ?_
  rintro e w2 ⟨rfl, v2, h2, n2, f2⟩
  have o2 := o1.step n2 f2
  go_wp2_with fail
  refine (wbits_ok w.heap.size v2 1 1 2 2 2 w2 h2 (by decide) (by decide) (by decide) (by decide) (by decide)).mono ?_
  rintro e w3 ⟨rfl, v3, h3, n3, f3⟩
  have o3 := o2.step n3 f3
  go_wp2_with fail
  refine (wtext_any w.heap.size v3 5 3 2 w3 h3 (by decide)).mono ?_
  rintro e w4 ⟨rfl, f4⟩
  have o4 := o3.quiet f4
  have h4 := h3.to f4 (by simp)
  rw [T1.out]
  go_wp2_with fail
  refine (wbytes_any w.heap.size v3 5 3 2 ⟨#[97]⟩ w4 h4 (by decide) (by decide) (by decide)).mono ?_
  rintro e w5 ⟨rfl, v5, h5, n5, f5⟩
  have o5 := o4.step n5 f5
  rw [show wbytesE 3 2 ⟨#[97]⟩ = 0 by decide] at h5 ⊢
  replace h5 : Wr w5 w.heap.size v5 (5 + num ⟨#[97]⟩ * 2 ^ (3 + pad 3)) (3 + pad 3 + 8 * 1) 2 := h5
  go_wp2_with fail
  refine (wtext_any w.heap.size v5 _ _ 2 w5 h5 (by decide)).mono ?_
  rintro e w6 ⟨rfl, f6⟩
  have o6 := o5.quiet f6
  have h6 := h5.to f6 (by simp)
  rw [T2.out]
  go_wp2_with fail
  refine (wlen_any w.heap.size v5 _ _ 2 w6 h6 (by decide)).mono ?_
  rintro e w7 ⟨rfl, n7, rfl⟩
  have h7 := h6.to (Fr.drewN [] w6 n7) (by simp)
  have o7 := o6.quiet (Fr.drewN [] w6 n7)
  rw [show ((3 + pad 3 + 8 * 1 : Nat) : Int) = 16 by decide]
  go_wp2_with fail
  refine (wbits_err w.heap.size v5 _ _ 2 1 1 _ h7 (by decide) (by decide) (by decide) (by decide)).mono ?_
  rintro e w8 ⟨rfl, f8⟩
  rw [show wbE (3 + pad 3 + 8 * 1) 2 1 1 = 4 by decide]
  have h8 := h7.to f8 (by simp)
  have o8 := o7.quiet f8
  go_wp2_with fail
  refine (wbits_err w.heap.size v5 _ _ 2 4 2 _ h8 (by decide) (by decide) (by decide) (by decide)).mono ?_
  rintro e w9 ⟨rfl, f9⟩
  rw [show wbE (3 + pad 3 + 8 * 1) 2 4 2 = 2 by decide]
  have o9 := o8.quiet f9
  go_wp2_with fail
  go_ret
  exact ⟨rfl, o9.below⟩

set_option maxHeartbeats 800000 in
theorem bitwNil_walk (w : World) (n : Int) (w0 : (Lit.int .u64 n).wf = true) (size : Int) (w1 : (Lit.int .i64 size).wf = true) (s : ByteArray) (w2 : s.size ≤ maxLen) :
    Calls Try.prog 8 #[.int .u64 n, .int .i64 size, .string s] w fun e w' => e = .returned (.bool true) ∧ Below w.heap.size w w' := by
  clear w0 w1 w2
  by_cases hbig : 1024 < s.size
  · have hbig' : (1024 : Int) < (s.size : Int) := by omega
    go_enter Try.func8, Try.ntmps8
    go_wp2_with fail
    refine (alive02 w).mono ?_
    rintro e w' ⟨rfl, hb⟩
    go_wp2_with fail
    go_ret
    exact ⟨rfl, hb⟩
  have hbig' : (s.size : Int) ≤ 1024 := by omega
  clear hbig
  go_enter Try.func8, Try.ntmps8
  go_wp2_with fail
  refine (wbits_nil _ _ _).mono ?_
  rintro e w' ⟨rfl, rfl⟩
  go_wp2_with fail
  refine (wcode_nil 0 0 _ (by decide) (by decide) (by decide) (by decide)).mono ?_
  rintro e w1 ⟨rfl, f1⟩
  go_wp2_with fail
  refine (walign_nil _).mono ?_
  rintro e w' ⟨rfl, rfl⟩
  go_wp2_with fail
  refine (wbytes_nil _ _).mono ?_
  rintro e w' ⟨rfl, rfl⟩
  go_wp2_with fail
  refine (wlen_nil _).mono ?_
  rintro e w' ⟨rfl, rfl⟩
  go_wp2_with fail
  refine (wtext_nil _).mono ?_
  rintro e w' ⟨rfl, rfl⟩
  go_wp2_with fail
  refine (alive02 _).mono ?_
  rintro e w2 ⟨rfl, hb⟩
  go_wp2_with fail
  go_ret
  exact ⟨rfl, (Fr.of_below (l := []) hb).out f1.below (by simp)⟩
end Go.Proofs.Ytlognooioemenaa
