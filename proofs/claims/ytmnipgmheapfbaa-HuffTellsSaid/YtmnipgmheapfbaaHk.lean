/- A code is written into a table's cells: huff.fill. -/
import Derived.Test.YtmnipgmheapfbaaHj
namespace Go.Proofs.Ytmnipgmheapfbaa
open Go.RowKit
set_option linter.unusedVariables false
set_option linter.unusedSimpArgs false

/-- A table's cell. -/
def Cl (p : Nat × Nat) : List Value := [.int .i64 (p.1 : Int), .int .i64 (p.2 : Int)]
theorem cl_len (p : Nat × Nat) : (Cl p).length = 2 := rfl
abbrev Crow := Prow Cl 82

set_option maxRecDepth 2000000 in
set_option maxHeartbeats 1600000 in
theorem fill_any (g n c : Nat) (F : Nat → Nat × Nat) (x y b s : Nat) (w : World) (hP : Crow w g n F) (hn : n ≤ 32768) (hx : x < 2 ^ y) (hy : y ≤ 15) (hb : b ≤ y) (hs : s ≤ 320) :
    Calls Try.prog 31 #[.slice (some ⟨g, 0, none⟩) n c, .agg #[.int .u32 (x : Int), .int .u8 (y : Int)], .int .i64 (b : Int), .int .i64 (s : Int)] w fun e w' => e = .returned (.tuple #[]) ∧ Crow w' g n (fun i => if i % 2 ^ (y - b) = x / 2 ^ b then (s, y) else F i) ∧ Fr [g] w w' := by
  have hx15 : 2 ^ y ≤ 2 ^ 15 := Nat.pow_le_pow_right (by decide) hy
  have hp15 : 2 ^ (y - b) ≤ 2 ^ 15 := Nat.pow_le_pow_right (by decide) (by omega)
  have hq : x / 2 ^ b < 2 ^ (y - b) := by
    rw [Nat.div_lt_iff_lt_mul (Nat.pow_pos (by decide)), ← Nat.pow_add, show y - b + b = y by omega]
    exact hx
  obtain ⟨q, hqq⟩ : ∃ q, x / 2 ^ b = q := ⟨_, rfl⟩
  obtain ⟨p, hpp⟩ : ∃ p, 2 ^ (y - b) = p := ⟨_, rfl⟩
  have e1 : (x : Int) / 2 ^ b = (q : Int) := by rw [← hqq]; simp
  have e2 : (2 : Int) ^ (y - b) = (p : Int) := by rw [← hpp]; simp
  rw [hqq, hpp] at hq
  rw [hqq, hpp]
  rw [hpp] at hp15
  have i1 : (x : Int) ≤ 32767 := by omega
  have i2 : (y : Int) ≤ 15 := by omega
  have i3 : (b : Int) ≤ (y : Int) := by omega
  have i4 : (q : Int) ≤ 32767 := by omega
  have i5 : (p : Int) ≤ 32768 := by omega
  have i6 : (n : Int) ≤ 32768 := by omega
  have i7 : (s : Int) ≤ 320 := by omega
  have HP := Lib.hid (And.intro hP hq)
  have hgl := lt_of hP
  clear hP hx15 hqq hpp hp15 hx hy hb hs hq hn
  go_enter Try.func31, Try.ntmps31
  go_wp2_with fail
  go_loopw [9] (fun v wr => ∃ i : Nat, i ≤ n + p ∧ i % p = q ∧ v = .int .i64 i ∧ Crow wr g n (fun j => if j < i ∧ j % p = q then (s, y) else F j) ∧ wr.heap[w.heap.size]? = some (.cells #[.int .u32 (x : Int), .int .u8 (y : Int)] 60 (0, 0)) ∧ Fr [g] w wr) (fun v _ => n + p - (intOf v).toNat)
  case atStart =>
    have hq := HP.out.2
    refine ⟨q, by omega, Nat.mod_eq_of_lt hq, rfl, ?_, new_of w _, Fr.alloc _ _ _⟩
    refine (HP.out.1.to (Fr.alloc [] w _) (by simp)).congr fun j hj => ?_
    rw [if_neg]
    rintro ⟨h1, h2⟩
    rw [Nat.mod_eq_of_lt (by omega)] at h2
    omega
  case round =>
    obtain ⟨i, hi, him, rfl, hC, hb, hf⟩ := hrel
    by_cases hin : i < n
    · have c0 := cell_of hb 0
      have c1 := cell_of hb 1
      have g0 := free_of hC (i * 2)
      have g1 := free_of hC (i * 2 + 1)
      have k0 := hC.cell cl_len i 0 hin (by omega)
      have k1 := hC.cell cl_len i 1 hin (by omega)
      rw [if_neg (by omega)] at k0 k1
      simp only [Cl, List.getElem?_cons_zero, List.getElem?_cons_succ, Nat.add_zero] at k0 k1
      obtain ⟨z0, hz0⟩ : ∃ z, (F i).1 = z := ⟨_, rfl⟩
      obtain ⟨z1, hz1⟩ : ∃ z, (F i).2 = z := ⟨_, rfl⟩
      rw [hz0] at k0
      rw [hz1] at k1
      have hii : (i : Int) < (n : Int) := by omega
      have hgw : ¬ (w.heap.size = g) := by omega
      have HR := Lib.hid (And.intro hC (And.intro hb (And.intro hf him)))
      have hi2 := i5
      clear hC hb hf him hz0 hz1
      go_wp2_with fail
      go_roundw
      case rel =>
        have hp0 : 0 < p := by have := HP.out.2; omega
        refine ⟨i + p, by omega, by rw [Nat.add_mod_right]; exact HR.out.2.2.2, by go_num, ?_, ?_, ?_⟩
        · refine (HR.out.1.set_ (G := fun j => if j < i + p ∧ j % p = q then (s, y) else F j) cl_len i hin _ _ (fun j hj hji => ?_) (by rw [if_pos ⟨by omega, HR.out.2.2.2⟩]; rfl))
          by_cases h : j < i ∧ j % p = q
          · rw [if_pos h, if_pos ⟨by omega, h.2⟩]
          · rw [if_neg h, if_neg]
            rintro ⟨h1, h2⟩
            apply h
            refine ⟨?_, h2⟩
            rcases Nat.lt_or_ge j i with h3 | h3
            · exact h3
            · exfalso
              have h4 : (j - i) % p = 0 := Nat.sub_mod_eq_zero_of_mod_eq (by rw [h2, HR.out.2.2.2])
              rw [Nat.mod_eq_of_lt (by omega)] at h4
              omega
        · exact (((Fr.setCell _ g _ _).trans (Fr.setCell _ g _ _))).blk HR.out.2.1 (by simp; omega)
        · exact HR.out.2.2.1.trans ((Fr.setCell _ g _ _).trans (Fr.setCell _ g _ _))
      case measure =>
        have hp0 : 0 < p := by have := HP.out.2; omega
        simp [intOf]; omega
    · have HR := Lib.hid (And.intro hC hf)
      have hii : (n : Int) ≤ (i : Int) := by omega
      clear hC hf hb
      go_wp2_with fail
      refine bodyPost_end (v := .tuple #[]) (by simp [results, Try.results31, go_sem]) rfl ?_
      exact ⟨rfl, HR.out.1.congr fun j hj => by
        by_cases h : j % p = q
        · rw [if_pos h, if_pos ⟨by omega, h⟩]
        · rw [if_neg h, if_neg (fun e => h e.2)], HR.out.2⟩
end Go.Proofs.Ytmnipgmheapfbaa

