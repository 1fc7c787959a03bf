/- The codes as they are written: huff.Writes. -/
import Derived.Test.YtmnipgmheapfbaaHi
import Derived.Test.YtmnipgmheapfbaaWd
namespace Go.Proofs.Ytmnipgmheapfbaa
open Go.RowKit
set_option linter.unusedVariables false
set_option linter.unusedSimpArgs false

/-- A symbol's code as it is written, nothing if there is none. -/
def codeW (l : List Nat) (s : Nat) : Nat × Nat := (turnN (codeP l s).1 (codeP l s).2, (codeP l s).2)
theorem codeW_eq (l : List Nat) (s : Nat) : codeW l s = if l.getD s 0 = 0 then (0, 0) else (wb l s, l.getD s 0) := by
  unfold codeW codeP
  by_cases h : l.getD s 0 = 0
  · rw [if_pos h, if_pos h]; rfl
  · rw [if_neg h, if_neg h]; rfl
theorem codeP_size (l : List Nat) (s : Nat) : (codeP l s).2 = l.getD s 0 := by
  unfold codeP
  split
  · rename_i h; rw [h]
  · rfl
theorem codeW_size (l : List Nat) (s : Nat) : (codeW l s).2 = l.getD s 0 := codeP_size l s
theorem getD_le {l : List Nat} (h : ∀ x ∈ l, x ≤ 15) (s : Nat) : l.getD s 0 ≤ 15 := by
  cases hs : l[s]? with
  | none => simp [List.getD, hs]
  | some n => rw [getD_of hs]; exact h n (List.mem_of_getElem? hs)
theorem codeP_lt {l : List Nat} (h : Fine l) (s : Nat) : (codeP l s).1 < 2 ^ (codeP l s).2 := by
  rw [codeP_size]
  unfold codeP
  by_cases h0 : l.getD s 0 = 0
  · rw [if_pos h0, h0]; decide
  · rw [if_neg h0]
    obtain ⟨n, h1, h2, h3⟩ := get_of_pos (l := l) (s := s) (by omega)
    rw [h2]
    exact code_lt h h1 h3
theorem codeP_le {l : List Nat} (h : Fine l) (s : Nat) : (codeP l s).1 ≤ 32767 := by
  have h1 := codeP_lt h s
  have h2 : 2 ^ (codeP l s).2 ≤ 2 ^ 15 := Nat.pow_le_pow_right (by decide) (by rw [codeP_size]; exact getD_le h.le s)
  omega
theorem codeW_lt (l : List Nat) (s : Nat) : (codeW l s).1 < 2 ^ (codeW l s).2 := turnN_lt _ _
theorem codeW_le {l : List Nat} (h : ∀ x ∈ l, x ≤ 15) (s : Nat) : (codeW l s).1 ≤ 32767 := by
  have h1 := codeW_lt l s
  have h2 : 2 ^ (codeW l s).2 ≤ 2 ^ 15 := Nat.pow_le_pow_right (by decide) (by rw [codeW_size]; exact getD_le h s)
  omega

set_option maxRecDepth 2000000 in
set_option maxHeartbeats 1600000 in
theorem hwrites_bad (a : Option Addr) (c : Nat) (l : List Nat) (w : World) (hs : SlOf U8 1 w a l) (hl : l.length ≤ 9223372036854775807) (h8 : ∀ x ∈ l, x < 256) (er : Nat) (hk : kindN l = 5 ∧ er = 2 ∨ kindN l = 4 ∧ er = 7) :
    Calls Try.prog 11 #[.slice a l.length c] w fun e w' => e = .returned (.tuple #[.slice none 0 0, .int .i64 (er : Int)]) ∧ Fr [] w w' := by
  have HT := Lib.hid (ccodes_bad a c l w hs hl h8 er hk)
  have he : ¬ ((er : Int) = 0) := by omega
  clear hs hl h8 hk
  go_enter Try.func11, Try.ntmps11
  go_wp2_with fail
  refine HT.out.mono ?_
  rintro e w1 ⟨rfl, f1⟩
  clear HT
  have HF := Lib.hid f1
  clear f1
  go_wp2_with fail
  go_ret2
  exact ⟨rfl, HF.out⟩

set_option maxRecDepth 2000000 in
set_option maxHeartbeats 1600000 in
theorem hwrites_any (a : Option Addr) (c : Nat) (l : List Nat) (w : World) (hs : SlOf U8 1 w a l) (hl : l.length ≤ 9223372036854775807) (h8 : ∀ x ∈ l, x < 256) (hk5 : kindN l ≠ 5) (hk4 : kindN l ≠ 4) :
    Calls Try.prog 11 #[.slice a l.length c] w fun e w' => ∃ g, e = .returned (.tuple #[.slice (some ⟨g, 0, none⟩) l.length l.length, .int .i64 0]) ∧ w.heap.size ≤ g ∧ Prow Cd 60 w' g l.length (codeW l) ∧ Fr [] w w' := by
  have hbad := kind_le hk5
  have hw := kind_wt hk5 hk4
  obtain ⟨hlen, hle⟩ := kind_ok hbad
  have HFI := Lib.hid (Fine.mk hle hw)
  have HT := Lib.hid (ccodes_any a c l w hs hl h8 hk5 hk4)
  have i1 : (l.length : Int) ≤ 320 := by omega
  clear hs hl h8 hbad hw hlen hle hk5 hk4
  go_enter Try.func11, Try.ntmps11
  go_wp2_with fail
  refine HT.out.mono ?_
  rintro e w1 ⟨g, rfl, hg, hP, f1⟩
  clear HT
  have HF := Lib.hid (And.intro hg (And.intro hP f1.below))
  have hgs := lt_of hP
  clear hg hP f1
  go_wp2_with fail
  go_loopw [18] (fun i w3 => ∃ j : Nat, j ≤ l.length ∧ i = .int .i64 j ∧ Prow Cd 60 w3 g l.length (fun s => if s < j then codeW l s else codeP l s) ∧ Below w.heap.size w w3) (fun i _ => l.length - (intOf i).toNat)
  case atStart => exact ⟨0, Nat.zero_le _, rfl, HF.out.2.1.congr fun s hs => rfl, HF.out.2.2⟩
  case round =>
    obtain ⟨j, hj, rfl, hP, hB⟩ := hrel
    by_cases hjl : j < l.length
    · have e0 := hP.cell cd_len j 0 hjl (by omega)
      have e1 := hP.cell cd_len j 1 hjl (by omega)
      have g0 := free_of hP (j * 2)
      have g1 := free_of hP (j * 2 + 1)
      have hgs := lt_of hP
      rw [if_neg (by omega)] at e0 e1
      simp only [Cd, List.getElem?_cons_zero, List.getElem?_cons_succ, Nat.add_zero] at e0 e1
      obtain ⟨x, hx⟩ : ∃ x, (codeP l j).1 = x := ⟨_, rfl⟩
      obtain ⟨y, hy⟩ : ∃ y, (codeP l j).2 = y := ⟨_, rfl⟩
      rw [hx] at e0
      rw [hy] at e1
      have hx1 : (x : Int) ≤ 32767 := by have := codeP_le HFI.out j; omega
      have hy1 : (y : Int) ≤ 15 := by have := getD_le HFI.out.le j; rw [← hy, codeP_size]; omega
      have hji : (j : Int) < (l.length : Int) := by omega
      have hcl : cl (y : Int) = y := by unfold cl; omega
      have hz : turnN x y ≤ 32767 := by
        have h1 := turnN_lt x y
        have h2 : 2 ^ y ≤ 2 ^ 15 := Nat.pow_le_pow_right (by decide) (by omega)
        omega
      have HT := Lib.hid (fun W => turn_any x y W (by omega) (by omega) (by omega))
      have HR := Lib.hid (And.intro hP (And.intro hB (And.intro hx (And.intro hy (And.intro hcl hz)))))
      clear hP hB hx hy hcl hz
      go_wp2_with fail
      refine (HT.out _).mono ?_
      rintro e w4 ⟨rfl, hw4⟩
      rw [HR.out.2.2.2.2.1]
      obtain ⟨z, hzz⟩ : ∃ z, turnN x y = z := ⟨_, rfl⟩
      have hz1 : (z : Int) ≤ 32767 := by have := HR.out.2.2.2.2.2; omega
      rw [hzz]
      have HZ := Lib.hid hzz
      clear hzz
      subst hw4
      go_wp2_with fail
      go_roundw
      case rel =>
        refine ⟨j + 1, by omega, by go_num, ?_, ?_⟩
        · have hP2 := HR.out.1.set0 (G := fun s => if s < j + 1 then codeW l s else codeP l s) cd_len j hjl (.int .u32 (z : Int)) (.int .u8 (y : Int)) (fun s hs hsj => by
            by_cases h : s < j
            · rw [if_pos h, if_pos (by omega)]
            · rw [if_neg h, if_neg (by omega)]) (by rw [if_pos (by omega)]; unfold codeW Cd; rw [HR.out.2.2.1, HR.out.2.2.2.1, HZ.out]) (by rw [if_neg (by omega)]; unfold Cd; rw [HR.out.2.2.2.1]; rfl)
          exact hP2.to (Fr.alloc [] _ _) (by simp)
        · exact (Fr.alloc [] _ _).out ((Fr.setCell _ g _ _).out HR.out.2.1 (by simp; exact HF.out.1)) (by simp)
      case measure => simp [intOf]; omega
    · have hje : j = l.length := by omega
      subst hje
      have HR := Lib.hid (And.intro hP hB)
      clear hP hB
      go_wp2_with fail
      go_ret2
      exact ⟨_, rfl, HF.out.1, HR.out.1.congr fun s hs => by rw [if_pos hs], Fr.of_below HR.out.2⟩
end Go.Proofs.Ytmnipgmheapfbaa

