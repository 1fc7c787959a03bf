/- Codes that are read from bits, the lowest one first, in plain Lean: which code bits begin with. -/
import Derived.Test.YtciejmlhdmjajaaKHa
namespace Go.Proofs.Ytciejmlhdmjajaa
open Go.RowKit
set_option linter.unusedVariables false
set_option linter.unusedSimpArgs false

theorem turnN_divg (x k m : Nat) (h : k ≤ m) : turnN x m / 2 ^ (m - k) = turnN x k := by
  apply Nat.eq_of_testBit_eq
  intro i
  rw [Nat.testBit_div_two_pow, turnN_bit, turnN_bit]
  by_cases hi : i < k
  · rw [decide_eq_true hi, decide_eq_true (show i + (m - k) < m by omega), show m - 1 - (i + (m - k)) = k - 1 - i by omega]
  · rw [decide_eq_false hi, decide_eq_false (show ¬ i + (m - k) < m by omega)]; rfl
theorem turnN_turnN (x k : Nat) : turnN (turnN x k) k = x % 2 ^ k := by
  apply Nat.eq_of_testBit_eq
  intro i
  rw [turnN_bit, turnN_bit, Nat.testBit_mod_two_pow]
  by_cases hi : i < k
  · rw [decide_eq_true hi, decide_eq_true (show k - 1 - i < k by omega), show k - 1 - (k - 1 - i) = i by omega]; simp
  · rw [decide_eq_false hi]; simp
theorem turnN_mod (x k : Nat) : turnN (x % 2 ^ k) k = turnN x k := by
  apply Nat.eq_of_testBit_eq
  intro i
  rw [turnN_bit, turnN_bit, Nat.testBit_mod_two_pow]
  by_cases hi : i < k
  · rw [decide_eq_true hi, decide_eq_true (show k - 1 - i < k by omega)]; simp
  · rw [decide_eq_false hi]; simp

/-- What a symbol is written as: its code, the first bit the lowest. -/
def wb (l : List Nat) (s : Nat) : Nat := turnN (codeN l s) (l.getD s 0)
/-- Lengths of which there are no more than can be. -/
structure Fine (l : List Nat) : Prop where
  le : ∀ x ∈ l, x ≤ 15
  wt_ : wt l 15 ≤ 32768
theorem Fine.at_ {l : List Nat} (h : Fine l) {s n : Nat} (hs : l[s]? = some n) : n ≤ 15 := h.le n (List.mem_of_getElem? hs)
theorem pow15 (n : Nat) (h : n ≤ 15) : 2 ^ n * 2 ^ (15 - n) = 32768 := by
  rw [← Nat.pow_add, show n + (15 - n) = 15 by omega]
theorem code_lt {l : List Nat} (h : Fine l) {s n : Nat} (hs : l[s]? = some n) (hn : 0 < n) : codeN l s < 2 ^ n := by
  have h15 := h.at_ hs
  have h1 := hi_le hs hn h15
  have h2 := wt_le l h15
  have h3 := h.wt_
  unfold lo at h1
  rw [getD_of hs] at h1
  have h4 : (codeN l s + 1) * 2 ^ (15 - n) ≤ 2 ^ n * 2 ^ (15 - n) := by rw [Nat.add_mul, Nat.one_mul, pow15 n h15]; omega
  have := Nat.le_of_mul_le_mul_right h4 (Nat.pow_pos (by decide))
  omega
theorem wb_lt (l : List Nat) (s n : Nat) (hs : l[s]? = some n) : wb l s < 2 ^ n := by
  unfold wb; rw [getD_of hs]; exact turnN_lt _ _
/-- Do these bits begin with the symbol's code? -/
def fits (l : List Nat) (x s : Nat) : Bool := decide (0 < l.getD s 0 ∧ x % 2 ^ l.getD s 0 = wb l s)
theorem fits_iff {l : List Nat} (h : Fine l) {s n : Nat} (hs : l[s]? = some n) (hn : 0 < n) (x : Nat) : fits l x s = true ↔ lo l s ≤ turnN x 15 ∧ turnN x 15 < lo l s + 2 ^ (15 - n) := by
  have h15 := h.at_ hs
  have hc := code_lt h hs hn
  unfold fits wb lo
  rw [getD_of hs, decide_eq_true_eq]
  have hd := turnN_divg x n 15 h15
  have hp : 0 < 2 ^ (15 - n) := Nat.pow_pos (by decide)
  have e : x % 2 ^ n = turnN (codeN l s) n ↔ turnN x n = codeN l s := by
    constructor
    · intro e
      rw [← turnN_mod, e, turnN_turnN, Nat.mod_eq_of_lt hc]
    · intro e
      rw [← turnN_turnN, e]
  rw [e, ← hd]
  constructor
  · rintro ⟨_, e⟩
    rw [← e]
    have h1 := Nat.div_mul_le_self (turnN x 15) (2 ^ (15 - n))
    have h2 := Nat.lt_div_mul_add (a := turnN x 15) hp
    omega
  · rintro ⟨h1, h2⟩
    refine ⟨hn, ?_⟩
    rw [Nat.div_eq_iff hp]
    constructor
    · exact h1
    · omega
theorem fits_get {l : List Nat} {x s : Nat} (h : fits l x s = true) : ∃ n, l[s]? = some n ∧ 0 < n ∧ l.getD s 0 = n := by
  unfold fits at h
  rw [decide_eq_true_eq] at h
  cases hs : l[s]? with
  | none => simp [List.getD, hs] at h
  | some n => exact ⟨n, rfl, by have := h.1; rwa [getD_of hs] at this, getD_of hs⟩
theorem fits_one {l : List Nat} (h : Fine l) {x s t : Nat} (hs : fits l x s = true) (ht : fits l x t = true) : s = t := by
  obtain ⟨n, h1, h2, _⟩ := fits_get hs
  obtain ⟨m, h3, h4, _⟩ := fits_get ht
  rw [fits_iff h h1 h2] at hs
  rw [fits_iff h h3 h4] at ht
  by_cases hst : s = t
  · exact hst
  · rcases apart_codes h1 h3 h2 h4 (h.at_ h1) (h.at_ h3) hst with k | k <;> omega
/-- Each row of bits begins with a code, if they are whole. -/
theorem fits_whole {l : List Nat} (h : Fine l) (hw : wt l 15 = 32768) (x : Nat) : ∃ s, fits l x s = true := by
  obtain ⟨s, n, h1, h2, h3, h4⟩ := covered l 15 (turnN x 15) (Nat.le_refl _) (by rw [hw]; exact turnN_lt x 15)
  exact ⟨s, (fits_iff h h1 h2 x).2 h4⟩
/-- The symbol whose code bits begin with. -/
def findS (l : List Nat) (x : Nat) : Option Nat := (List.range l.length).find? (fits l x)
theorem findS_some {l : List Nat} {x s : Nat} (h : findS l x = some s) : fits l x s = true := List.find?_some h
theorem findS_of {l : List Nat} (hf : Fine l) {x s : Nat} (h : fits l x s = true) : findS l x = some s := by
  cases e : findS l x with
  | none =>
    obtain ⟨n, h1, _⟩ := fits_get h
    have hl := (List.getElem?_eq_some_iff.1 h1).1
    have := List.find?_eq_none.1 e s (List.mem_range.2 hl)
    exact absurd h this
  | some t => rw [fits_one hf (findS_some e) h]
theorem findS_none {l : List Nat} {x : Nat} (h : findS l x = none) (s : Nat) : fits l x s = false := by
  cases e : fits l x s with
  | false => rfl
  | true =>
    obtain ⟨n, h1, _⟩ := fits_get e
    have hl := (List.getElem?_eq_some_iff.1 h1).1
    exact absurd e (List.find?_eq_none.1 h s (List.mem_range.2 hl))
theorem fits_mod (l : List Nat) (x s h : Nat) (hn : l.getD s 0 ≤ h) : fits l (x % 2 ^ h) s = fits l x s := by
  unfold fits
  rw [Nat.mod_mod_of_dvd _ (Nat.pow_dvd_pow 2 hn)]

/-- P7.2, as the table tells it: of h bits. -/
def lookN (l : List Nat) (x h : Nat) : Nat × Nat × Int := match findS l (x % 2 ^ h) with
  | none => (0, 0, 7)
  | some s => if h < l.getD s 0 then (0, 0, 6) else (s, l.getD s 0, 0)
/-- Do the bits that there are agree with the symbol's code? -/
def pfit (l : List Nat) (x h s : Nat) : Bool := decide (0 < l.getD s 0 ∧ x % 2 ^ min (l.getD s 0) h = wb l s % 2 ^ min (l.getD s 0) h)
theorem pfit_fits (l : List Nat) (x h s n : Nat) (hs : l[s]? = some n) (hn : n ≤ h) : pfit l x h s = fits l x s := by
  unfold pfit fits
  rw [getD_of hs, Nat.min_eq_left hn, Nat.mod_eq_of_lt (wb_lt l s n hs)]
/-- P7.2, as the document tells it. -/
def lookR (l : List Nat) (x h : Nat) : Nat × Nat × Int := match (List.range l.length).find? (fun s => pfit l x h s && decide (l.getD s 0 ≤ h)) with
  | some s => (s, l.getD s 0, 0)
  | none => if (List.range l.length).any (pfit l x h) then (0, 0, 6) else (0, 0, 7)
/-- Lengths of which there is a table. -/
def Tab (l : List Nat) : Prop := Fine l ∧ (wt l 15 = 32768 ∨ (∀ s, 0 < l.getD s 0 → l.getD s 0 = 1 ∧ wb l s = 0))
theorem look_eq (l : List Nat) (h : Tab l) (x k : Nat) : lookR l x k = lookN l x k := by
  obtain ⟨hf, hw⟩ := h
  unfold lookN lookR
  cases e : findS l (x % 2 ^ k) with
  | none =>
    have hno := findS_none e
    rcases hw with hw | hw
    · obtain ⟨s, hs⟩ := fits_whole hf hw (x % 2 ^ k)
      rw [hno s] at hs; cases hs
    · have hp : ∀ s, pfit l x k s = false := fun s => by
        unfold pfit
        rw [decide_eq_false_iff_not]
        rintro ⟨h1, h2⟩
        obtain ⟨h3, h4⟩ := hw s h1
        have h5 := hno s
        unfold fits at h5
        rw [decide_eq_false_iff_not, h3, h4] at h5
        rw [h3, h4, Nat.zero_mod] at h2
        apply h5
        refine ⟨by decide, ?_⟩
        cases k with
        | zero => simp [Nat.mod_one]
        | succ k =>
          rw [Nat.min_eq_left (by omega)] at h2
          rw [Nat.mod_mod_of_dvd _ (Nat.pow_dvd_pow 2 (by omega))]
          exact h2
      have h1 : (List.range l.length).find? (fun s => pfit l x k s && decide (l.getD s 0 ≤ k)) = none := List.find?_eq_none.2 fun s _ => by simp [hp s]
      have h2 : (List.range l.length).any (pfit l x k) = false := List.any_eq_false.2 fun s _ => by simp [hp s]
      rw [h1, h2]; rfl
  | some s =>
    have hs := findS_some e
    obtain ⟨n, h1, h2, h3⟩ := fits_get hs
    have hl := (List.getElem?_eq_some_iff.1 h1).1
    have huniq : ∀ t, pfit l x k t = true → l.getD t 0 ≤ k → t = s := fun t ht hk => by
      have hpos : 0 < l.getD t 0 := by unfold pfit at ht; rw [decide_eq_true_eq] at ht; exact ht.1
      obtain ⟨m, hm⟩ : ∃ m, l[t]? = some m := by
        cases hh : l[t]? with
        | none => simp [List.getD, hh] at hpos
        | some m => exact ⟨m, rfl⟩
      rw [pfit_fits l x k t m hm (by rw [getD_of hm] at hk; exact hk), ← fits_mod l x t k hk] at ht
      exact fits_one hf ht hs
    by_cases hk : k < n
    · have hnone : (List.range l.length).find? (fun s => pfit l x k s && decide (l.getD s 0 ≤ k)) = none := List.find?_eq_none.2 fun t _ ht => by
        rw [Bool.and_eq_true, decide_eq_true_eq] at ht
        have := huniq t ht.1 ht.2
        subst this
        have := ht.2
        omega
      have hany : (List.range l.length).any (pfit l x k) = true := List.any_eq_true.2 ⟨s, List.mem_range.2 hl, by
        unfold pfit
        unfold fits at hs
        rw [decide_eq_true_eq, h3] at hs
        rw [decide_eq_true_eq, h3, Nat.min_eq_right (by omega), ← hs.2, Nat.mod_mod_of_dvd _ (Nat.pow_dvd_pow 2 (by omega)), Nat.mod_mod]
        exact ⟨h2, rfl⟩⟩
      rw [hnone, hany]
      simp only [h3, if_pos hk, if_true]
    · have hfit : pfit l x k s = true := by rw [pfit_fits l x k s n h1 (by omega), ← fits_mod l x s k (by omega)]; exact hs
      have hfind : (List.range l.length).find? (fun s => pfit l x k s && decide (l.getD s 0 ≤ k)) = some s := by
        cases hh : (List.range l.length).find? (fun s => pfit l x k s && decide (l.getD s 0 ≤ k)) with
        | none =>
          have := List.find?_eq_none.1 hh s (List.mem_range.2 hl)
          rw [hfit, h3, decide_eq_true (by omega)] at this
          simp at this
        | some t =>
          have ht := List.find?_some hh
          simp only [Bool.and_eq_true, decide_eq_true_eq] at ht
          rw [huniq t ht.1 ht.2]
      rw [hfind]
      simp only [h3, if_neg hk]
end Go.Proofs.Ytciejmlhdmjajaa

