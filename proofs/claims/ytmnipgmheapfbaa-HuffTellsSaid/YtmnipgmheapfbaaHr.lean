/- The next symbol: huff's (*Table).Next. -/
import Derived.Test.YtmnipgmheapfbaaHq
import Derived.Test.YtmnipgmheapfbaaBn
namespace Go.Proofs.Ytmnipgmheapfbaa
open Go.RowKit
set_option linter.unusedVariables false
set_option linter.unusedSimpArgs false

theorem lookN_err (l : List Nat) (x h : Nat) : (lookN l x h).2.2 = 0 ∧ (lookN l x h).2.1 ≤ h ∨ (lookN l x h).2.2 = 7 ∧ (lookN l x h).1 = 0 ∧ (lookN l x h).2.1 = 0 ∨ (lookN l x h).2.2 = 6 ∧ (lookN l x h).1 = 0 ∧ (lookN l x h).2.1 = 0 := by
  unfold lookN
  split
  · right; left; exact ⟨rfl, rfl, rfl⟩
  · split
    · right; right; exact ⟨rfl, rfl, rfl⟩
    · left; refine ⟨rfl, ?_⟩; simp only; omega
theorem peekN_lt (s : ByteArray) (a z : Nat) : peekN s a z < 2 ^ z := by
  unfold peekN
  refine Nat.lt_of_lt_of_le (Nat.mod_lt _ (Nat.pow_pos (by decide))) (Nat.pow_le_pow_right (by decide) ?_)
  unfold peekH
  omega
/-- What Next answers at a place. -/
def nextN (l : List Nat) (s : ByteArray) (a : Nat) : Nat × Nat × Int := lookN l (peekN s a 15) (peekH s a 15)

set_option maxRecDepth 2000000 in
set_option maxHeartbeats 3200000 in
theorem next_nil1 (v : Option Addr) (w : World) : Calls Try.prog 19 #[.pointer none, .pointer v] w fun e w' => e = .returned (.tuple #[.int .i64 0, .int .i64 1]) ∧ Fr [] w w' := by
  go_enter Try.func19, Try.ntmps19
  go_wp2_with fail
  go_ret2
  exact ⟨rfl, Fr.refl _ _⟩
set_option maxRecDepth 2000000 in
set_option maxHeartbeats 3200000 in
theorem next_nil2 (tb : Nat) (w : World) : Calls Try.prog 19 #[.pointer (some ⟨tb, 0, none⟩), .pointer none] w fun e w' => e = .returned (.tuple #[.int .i64 0, .int .i64 1]) ∧ Fr [] w w' := by
  go_enter Try.func19, Try.ntmps19
  go_wp2_with fail
  go_ret2
  exact ⟨rfl, Fr.refl _ _⟩
set_option maxRecDepth 2000000 in
set_option maxHeartbeats 3200000 in
theorem next_any (tb b : Nat) (l : List Nat) (F hi : Nat) (s : ByteArray) (a : Nat) (w : World) (hT : Tb w hi tb l F) (hf : Fine l) (hl : l.length ≤ 320) (hF : F ≤ 15) (hR : Rd w b s a) (hs : s.size ≤ 1000000000) (ha : a ≤ 8 * s.size) :
    Calls Try.prog 19 #[.pointer (some ⟨tb, 0, none⟩), .pointer (some ⟨b, 0, none⟩)] w fun e w' => e = .returned (.tuple #[.int .i64 ((nextN l s a).1 : Int), .int .i64 (nextN l s a).2.2]) ∧ Rd w' b s (a + (nextN l s a).2.1) ∧ Fr [b] w w' := by
  have HP := Lib.hid (peek_any b s a 15 w hR hs ha (by omega))
  have HT := Lib.hid hT
  have hN : (nextN l s a) = lookN l (peekN s a 15) (min ((peekH s a 15 : Nat) : Int).toNat 15) := by
    unfold nextN
    rw [show min ((peekH s a 15 : Nat) : Int).toNat 15 = peekH s a 15 by unfold peekH; omega]
  have HL := Lib.hid (fun W (hW : Fr [] w W) => look_any tb l F hi (peekN s a 15) (peekH s a 15 : Nat) W (hT.to hW (by simp)) hf hl hF (Nat.lt_of_lt_of_le (peekN_lt s a 15) (by decide)) (by omega) (by unfold peekH; omega))
  rw [← hN] at HL
  have HSK := Lib.hid (fun W (hW : Fr [] w W) => skip_any b s a ((nextN l s a).2.1 : Int) W (hR.to hW (by simp)) hs ha)
  have hH : peekH s a 15 ≤ 8 * s.size - a := by unfold peekH; omega
  have herr := lookN_err l (peekN s a 15) (peekH s a 15)
  change (nextN l s a).2.2 = 0 ∧ (nextN l s a).2.1 ≤ _ ∨ (nextN l s a).2.2 = 7 ∧ (nextN l s a).1 = 0 ∧ (nextN l s a).2.1 = 0 ∨ (nextN l s a).2.2 = 6 ∧ (nextN l s a).1 = 0 ∧ (nextN l s a).2.1 = 0 at herr
  have HRR := Lib.hid hR
  have hsk : (nextN l s a).2.1 ≤ peekH s a 15 → skipE s a ((nextN l s a).2.1 : Int) = 0 := fun h => by
    unfold skipE
    rw [if_neg (by omega), if_neg (by omega)]
  generalize (nextN l s a).1 = r0 at *
  generalize (nextN l s a).2.1 = r1 at *
  generalize (nextN l s a).2.2 = r2 at *
  generalize peekN s a 15 = X at *
  generalize peekH s a 15 = H at *
  have HE := Lib.hid (And.intro herr hsk)
  clear hT hf hl hF hR hs ha hN hH hsk herr
  go_enter Try.func19, Try.ntmps19
  go_wp2_with fail
  refine HP.out.mono ?_
  rintro e w1 ⟨rfl, f1⟩
  have HF1 := Lib.hid f1
  clear f1
  go_wp2_with fail
  refine (HL.out w1 HF1.out).mono ?_
  rintro e w2 ⟨rfl, f2⟩
  have HF2 := Lib.hid (HF1.out.trans f2)
  clear f2
  rcases HE.out.1 with ⟨h2, hle⟩ | ⟨h2, h0, h1⟩ | ⟨h2, h0, h1⟩
  · subst h2
    have HSE := Lib.hid (HE.out.2 hle)
    clear hle
    go_wp2_with fail
    refine (HSK.out w2 HF2.out).mono ?_
    rintro e w3 ⟨rfl, hR3, hf3⟩
    rw [HSE.out] at hR3 ⊢
    simp only [if_true, Int.toNat_natCast] at hR3
    have H3 := Lib.hid (And.intro hR3 hf3)
    clear hR3 hf3
    go_wp2_with fail
    go_ret2
    exact ⟨rfl, H3.out.1, HF2.out.nil.trans H3.out.2⟩
  · subst h2 h0 h1
    go_wp2_with fail
    go_ret2
    exact ⟨rfl, HRR.out.to HF2.out (by simp), HF2.out.nil⟩
  · subst h2 h0 h1
    go_wp2_with fail
    go_ret2
    exact ⟨rfl, HRR.out.to HF2.out (by simp), HF2.out.nil⟩
end Go.Proofs.Ytmnipgmheapfbaa

