/- The statement HuffBack: the walk of its Go function. -/
import Derived.Test.YtmnipgmheapfbaaHv
import Derived.Test.YtmnipgmheapfbaaHx
import Derived.Test.YtmnipgmheapfbaaOw
namespace Go.Proofs.Ytmnipgmheapfbaa
open Go.RowKit
set_option linter.unusedVariables false
set_option linter.unusedSimpArgs false

/-- All blocks of a writer are newer than W, and W stays. -/
structure Own2 (W w : World) (b : Nat) (v : Value) : Prop where
  below : Below W.heap.size W w
  new : ∀ i, i ∈ wfp b v → W.heap.size ≤ i
theorem Own2.step {W w w' : World} {b : Nat} {v v' : Value} (h : Own2 W w b v) (n : NewRow w v v') (f : Fr (wfp b v) w w') : Own2 W w' b v' :=
  ⟨f.out h.below h.new, fun i hi => by rcases n.mem i hi with h' | h'; exact h.new i h'; have := h.below.size; omega⟩
theorem Own2.quiet {W w w' : World} {b : Nat} {v : Value} (h : Own2 W w b v) (f : Fr [] w w') : Own2 W w' b v := ⟨f.out h.below (by simp), h.new⟩
theorem Own2.made {w w' : World} (f : Fr [] w w') : Own2 w w' w.heap.size (.slice none 0 0) := ⟨f.below, by simp [wfp, Value.ownBlock]⟩
theorem wcode_ok (b : Nat) (v : Value) (N L most x z : Nat) (w : World) (hw : Wr w b v N L most) (hL : L ≤ 1000000) (hm : most ≤ 9223372036854775807) (hz : z ≤ 15) (hx : x < 2 ^ z) (hroom : (L + z + 7) / 8 ≤ most) :
    Calls Try.prog 22 #[.pointer (some ⟨b, 0, none⟩), .agg #[.int .u32 (x : Int), .int .u8 (z : Int)]] w fun e w' => e = .returned (.int .i64 0) ∧ ∃ v', Wr w' b v' (N + x * 2 ^ L) (L + z) most ∧ NewRow w v v' ∧ Fr (wfp b v) w w' := by
  have hx15 : 2 ^ z ≤ 2 ^ 15 := Nat.pow_le_pow_right (by decide) hz
  refine wcode_any _ _ _ _ _ _ (fun w1 f1 => ?_) (by omega) (by omega) (by omega) (by omega)
  refine (wbits_ok b v N L most x z w1 (hw.to f1 (by simp)) (by omega) hm (by omega) hx (by unfold roomB; exact decide_eq_true hroom)).mono ?_
  rintro e w2 ⟨he, v', h1, h2, h3⟩
  exact ⟨he, v', h1, (NewRow.refl w v).trans h2 f1.size, f1.nil.trans h3⟩
theorem elemI : Elem Try.prog 55 3 1 8 := by
  obtain ⟨i0, hi, hz0, hz1, hz2⟩ := info_parts (show (Try.prog.info? 3).map (fun i => (i.zero, i.size, i.bytes)) = some (some (.int .i64 0), 1, 8) by kernel_rfl)
  exact ⟨Try.underlying55, i0, _, hi, hz0, hz1, hz2, rfl, by decide⟩
theorem un_len (k : IntKind) (n : Nat) : (Un k n).length = 1 := rfl

set_option maxRecDepth 2000000 in
set_option maxHeartbeats 6400000 in
theorem back_big (w : World) (a0 a1 : Option Addr) (c0 c1 : Nat) (x0 x1 : List Nat) (l0 : x0.length ≤ 9223372036854775807) (l1 : x1.length ≤ 9223372036854775807) (hb : 320 < x0.length ∨ 200 < x1.length ∨ x0.length = 0) (a2 a3 : Int) :
    Calls Try.prog 6 #[.slice a0 x0.length c0, .slice a1 x1.length c1, .int .u8 a2, .int .u8 a3] w fun e w' => e = .returned (.bool true) ∧ Below w.heap.size w w' := by
  have i0 : (x0.length : Int) ≤ 9223372036854775807 := by omega
  have i1 : (x1.length : Int) ≤ 9223372036854775807 := by omega
  obtain ⟨n0, hn0⟩ : ∃ n, x0.length = n := ⟨_, rfl⟩
  obtain ⟨n1, hn1⟩ : ∃ n, x1.length = n := ⟨_, rfl⟩
  rw [hn0] at hb i0 ⊢
  rw [hn1] at hb i1 ⊢
  clear hn0 hn1 l0 l1
  by_cases h1 : 320 < n0
  · have j1 : (320 : Int) < (n0 : Int) := by omega
    clear hb h1
    go_enter Try.func6, Try.ntmps6
    go_wp2_with fail
    refine (alive_any _).mono ?_
    rintro e w1 ⟨rfl, f1⟩
    have HF1 := Lib.hid f1
    clear f1
    go_wp2_with fail
    go_ret
    exact ⟨rfl, HF1.out.below⟩
  · have j1 : (n0 : Int) ≤ 320 := by omega
    by_cases h2 : 200 < n1
    · have j2 : (200 : Int) < (n1 : Int) := by omega
      clear hb h1 h2
      go_enter Try.func6, Try.ntmps6
      go_wp2_with fail
      refine (alive_any _).mono ?_
      rintro e w1 ⟨rfl, f1⟩
      have HF1 := Lib.hid f1
      clear f1
      go_wp2_with fail
      go_ret
      exact ⟨rfl, HF1.out.below⟩
    · have j2 : (n1 : Int) ≤ 200 := by omega
      have h3 : n0 = 0 := by omega
      subst h3
      clear hb h1 h2
      go_enter Try.func6, Try.ntmps6
      go_wp2_with fail
      refine (alive_any _).mono ?_
      rintro e w1 ⟨rfl, f1⟩
      have HF1 := Lib.hid f1
      clear f1
      go_wp2_with fail
      go_ret
      exact ⟨rfl, HF1.out.below⟩
set_option maxRecDepth 2000000 in
set_option maxHeartbeats 6400000 in
theorem back_none (w : World) (a0 a1 : Option Addr) (c0 c1 : Nat) (x0 x1 : List Nat) (l0 : x0.length ≤ 320) (l1 : x1.length ≤ 200) (hp : 0 < x0.length) (n1 : Nat) (h1 : n1 < 256) (a3 : Int) (er : Nat) (her : 0 < er) (hr : er ≤ 7)
    (hnew : ∀ (f : Int) W, 1 ≤ f → f ≤ 12 → Fr [] w W → Calls Try.prog 9 #[.slice a0 x0.length c0, .int .i64 f] W fun e w' => e = .returned (.tuple #[.pointer none, .int .i64 (er : Int)]) ∧ Fr [] W w')
    (hwr : ∀ W, Fr [] w W → Calls Try.prog 11 #[.slice a0 x0.length c0] W fun e w' => ∃ v er2, e = .returned (.tuple #[v, .int .i64 er2]) ∧ Fr [] W w') :
    Calls Try.prog 6 #[.slice a0 x0.length c0, .slice a1 x1.length c1, .int .u8 (n1 : Int), .int .u8 a3] w fun e w' => e = .returned (.bool true) ∧ Below w.heap.size w w' := by
  have HN := Lib.hid hnew
  have HW := Lib.hid hwr
  have i0 : (x0.length : Int) ≤ 320 := by omega
  have i1 : (x1.length : Int) ≤ 200 := by omega
  have i2 : 1 ≤ (x0.length : Int) := by omega
  have i5 : ((x0.length : Int) == 0) = false := by simp; intro h; rw [h] at hp; simp at hp
  have i6 : (n1 : Int) ≤ 255 := by omega
  have i3 : ((er : Int) == 0) = false := by simp; omega
  have i4 : ((er : Int) != 0) = true := by simp; omega
  clear hnew hwr l0 l1 hp h1 her hr
  go_enter Try.func6, Try.ntmps6
  go_wp2_with fail
  refine (HN.out _ _ (by omega) (by omega) (Fr.refl _ _)).mono ?_
  rintro e w1 ⟨rfl, f1⟩
  have HF1 := Lib.hid f1
  clear f1
  go_wp2_with fail
  refine (HW.out _ HF1.out).mono ?_
  rintro e w2 ⟨v, er2, rfl, f2⟩
  have HF2 := Lib.hid (HF1.out.trans f2)
  clear f2 HF1
  go_wp2_with fail
  refine (alive_any _).mono ?_
  rintro e w3 ⟨rfl, f3⟩
  have HF3 := Lib.hid (HF2.out.trans f3)
  clear f3 HF2
  go_wp2_with fail
  go_ret
  exact ⟨rfl, HF3.out.below⟩
end Go.Proofs.Ytmnipgmheapfbaa

