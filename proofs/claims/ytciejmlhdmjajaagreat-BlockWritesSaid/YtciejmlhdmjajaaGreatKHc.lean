/- Codes that are read from bits, the lowest one first, in plain Lean: which code bits begin with. A table's cells, in plain Lean: what stands in each behind all symbols, and that this is what is looked for. -/
import Derived.Test.YtciejmlhdmjajaaGreatKHa
namespace Go.Proofs.YtciejmlhdmjajaaGreat
open Go.RowKit
set_option linter.unusedVariables false
set_option linter.unusedSimpArgs false

theorem turnN_divg (x k m : Nat) (h : k ≤ m) : turnN x m / 2 ^ (m - k) = turnN x k := by
  apply Nat.eq_of_testBit_eq
  intro i
  rw [Nat.testBit_div_two_pow, turnN_bit, turnN_bit]
  by_cases hi : i < k
  · rw [decide_eq_true hi, decide_eq_true (show i + (m - k) < m by omega), show m - 1 - (i + (m - k)) = k - 1 - i by omega]
  · rw [decide_eq_false hi, decide_eq_false (show ¬ i + (m - k) < m by omega)]; rfl
theorem turnN_turnN (x k : Nat) : turnN (turnN x k) k = x % 2 ^ k := by
  apply Nat.eq_of_testBit_eq
  intro i
  rw [turnN_bit, turnN_bit, Nat.testBit_mod_two_pow]
  by_cases hi : i < k
  · rw [decide_eq_true hi, decide_eq_true (show k - 1 - i < k by omega), show k - 1 - (k - 1 - i) = i by omega]; simp
  · rw [decide_eq_false hi]; simp
theorem turnN_mod (x k : Nat) : turnN (x % 2 ^ k) k = turnN x k := by
  apply Nat.eq_of_testBit_eq
  intro i
  rw [turnN_bit, turnN_bit, Nat.testBit_mod_two_pow]
  by_cases hi : i < k
  · rw [decide_eq_true hi, decide_eq_true (show k - 1 - i < k by omega)]; simp
  · rw [decide_eq_false hi]; simp

/-- What a symbol is written as: its code, the first bit the lowest. -/
def wb (l : List Nat) (s : Nat) : Nat := turnN (codeN l s) (l.getD s 0)
/-- Lengths of which there are no more than can be. -/
structure Fine (l : List Nat) : Prop where
  le : ∀ x ∈ l, x ≤ 15
  wt_ : wt l 15 ≤ 32768
theorem Fine.at_ {l : List Nat} (h : Fine l) {s n : Nat} (hs : l[s]? = some n) : n ≤ 15 := h.le n (List.mem_of_getElem? hs)
theorem pow15 (n : Nat) (h : n ≤ 15) : 2 ^ n * 2 ^ (15 - n) = 32768 := by
  rw [← Nat.pow_add, show n + (15 - n) = 15 by omega]
theorem code_lt {l : List Nat} (h : Fine l) {s n : Nat} (hs : l[s]? = some n) (hn : 0 < n) : codeN l s < 2 ^ n := by
  have h15 := h.at_ hs
  have h1 := hi_le hs hn h15
  have h2 := wt_le l h15
  have h3 := h.wt_
  unfold lo at h1
  rw [getD_of hs] at h1
  have h4 : (codeN l s + 1) * 2 ^ (15 - n) ≤ 2 ^ n * 2 ^ (15 - n) := by rw [Nat.add_mul, Nat.one_mul, pow15 n h15]; omega
  have := Nat.le_of_mul_le_mul_right h4 (Nat.pow_pos (by decide))
  omega
theorem wb_lt (l : List Nat) (s n : Nat) (hs : l[s]? = some n) : wb l s < 2 ^ n := by
  unfold wb; rw [getD_of hs]; exact turnN_lt _ _
/-- Do these bits begin with the symbol's code? -/
def fits (l : List Nat) (x s : Nat) : Bool := decide (0 < l.getD s 0 ∧ x % 2 ^ l.getD s 0 = wb l s)
theorem fits_iff {l : List Nat} (h : Fine l) {s n : Nat} (hs : l[s]? = some n) (hn : 0 < n) (x : Nat) : fits l x s = true ↔ lo l s ≤ turnN x 15 ∧ turnN x 15 < lo l s + 2 ^ (15 - n) := by
  have h15 := h.at_ hs
  have hc := code_lt h hs hn
  unfold fits wb lo
  rw [getD_of hs, decide_eq_true_eq]
  have hd := turnN_divg x n 15 h15
  have hp : 0 < 2 ^ (15 - n) := Nat.pow_pos (by decide)
  have e : x % 2 ^ n = turnN (codeN l s) n ↔ turnN x n = codeN l s := by
    constructor
    · intro e
      rw [← turnN_mod, e, turnN_turnN, Nat.mod_eq_of_lt hc]
    · intro e
      rw [← turnN_turnN, e]
  rw [e, ← hd]
  constructor
  · rintro ⟨_, e⟩
    rw [← e]
    have h1 := Nat.div_mul_le_self (turnN x 15) (2 ^ (15 - n))
    have h2 := Nat.lt_div_mul_add (a := turnN x 15) hp
    omega
  · rintro ⟨h1, h2⟩
    refine ⟨hn, ?_⟩
    rw [Nat.div_eq_iff hp]
    constructor
    · exact h1
    · omega
theorem fits_get {l : List Nat} {x s : Nat} (h : fits l x s = true) : ∃ n, l[s]? = some n ∧ 0 < n ∧ l.getD s 0 = n := by
  unfold fits at h
  rw [decide_eq_true_eq] at h
  cases hs : l[s]? with
  | none => simp [List.getD, hs] at h
  | some n => exact ⟨n, rfl, by have := h.1; rwa [getD_of hs] at this, getD_of hs⟩
theorem fits_one {l : List Nat} (h : Fine l) {x s t : Nat} (hs : fits l x s = true) (ht : fits l x t = true) : s = t := by
  obtain ⟨n, h1, h2, _⟩ := fits_get hs
  obtain ⟨m, h3, h4, _⟩ := fits_get ht
  rw [fits_iff h h1 h2] at hs
  rw [fits_iff h h3 h4] at ht
  by_cases hst : s = t
  · exact hst
  · rcases apart_codes h1 h3 h2 h4 (h.at_ h1) (h.at_ h3) hst with k | k <;> omega
/-- Each row of bits begins with a code, if they are whole. -/
theorem fits_whole {l : List Nat} (h : Fine l) (hw : wt l 15 = 32768) (x : Nat) : ∃ s, fits l x s = true := by
  obtain ⟨s, n, h1, h2, h3, h4⟩ := covered l 15 (turnN x 15) (Nat.le_refl _) (by rw [hw]; exact turnN_lt x 15)
  exact ⟨s, (fits_iff h h1 h2 x).2 h4⟩
/-- The symbol whose code bits begin with. -/
def findS (l : List Nat) (x : Nat) : Option Nat := (List.range l.length).find? (fits l x)
theorem findS_some {l : List Nat} {x s : Nat} (h : findS l x = some s) : fits l x s = true := List.find?_some h
theorem findS_of {l : List Nat} (hf : Fine l) {x s : Nat} (h : fits l x s = true) : findS l x = some s := by
  cases e : findS l x with
  | none =>
    obtain ⟨n, h1, _⟩ := fits_get h
    have hl := (List.getElem?_eq_some_iff.1 h1).1
    have := List.find?_eq_none.1 e s (List.mem_range.2 hl)
    exact absurd h this
  | some t => rw [fits_one hf (findS_some e) h]
theorem findS_none {l : List Nat} {x : Nat} (h : findS l x = none) (s : Nat) : fits l x s = false := by
  cases e : fits l x s with
  | false => rfl
  | true =>
    obtain ⟨n, h1, _⟩ := fits_get e
    have hl := (List.getElem?_eq_some_iff.1 h1).1
    exact absurd e (List.find?_eq_none.1 h s (List.mem_range.2 hl))
theorem fits_mod (l : List Nat) (x s h : Nat) (hn : l.getD s 0 ≤ h) : fits l (x % 2 ^ h) s = fits l x s := by
  unfold fits
  rw [Nat.mod_mod_of_dvd _ (Nat.pow_dvd_pow 2 hn)]

/-- P7.2, as the table tells it: of h bits. -/
def lookN (l : List Nat) (x h : Nat) : Nat × Nat × Int := match findS l (x % 2 ^ h) with
  | none => (0, 0, 7)
  | some s => if h < l.getD s 0 then (0, 0, 6) else (s, l.getD s 0, 0)
/-- Do the bits that there are agree with the symbol's code? -/
def pfit (l : List Nat) (x h s : Nat) : Bool := decide (0 < l.getD s 0 ∧ x % 2 ^ min (l.getD s 0) h = wb l s % 2 ^ min (l.getD s 0) h)
theorem pfit_fits (l : List Nat) (x h s n : Nat) (hs : l[s]? = some n) (hn : n ≤ h) : pfit l x h s = fits l x s := by
  unfold pfit fits
  rw [getD_of hs, Nat.min_eq_left hn, Nat.mod_eq_of_lt (wb_lt l s n hs)]
/-- P7.2, as the document tells it. -/
def lookR (l : List Nat) (x h : Nat) : Nat × Nat × Int := match (List.range l.length).find? (fun s => pfit l x h s && decide (l.getD s 0 ≤ h)) with
  | some s => (s, l.getD s 0, 0)
  | none => if (List.range l.length).any (pfit l x h) then (0, 0, 6) else (0, 0, 7)
/-- Lengths of which there is a table. -/
def Tab (l : List Nat) : Prop := Fine l ∧ (wt l 15 = 32768 ∨ (∀ s, 0 < l.getD s 0 → l.getD s 0 = 1 ∧ wb l s = 0))
theorem look_eq (l : List Nat) (h : Tab l) (x k : Nat) : lookR l x k = lookN l x k := by
  obtain ⟨hf, hw⟩ := h
  unfold lookN lookR
  cases e : findS l (x % 2 ^ k) with
  | none =>
    have hno := findS_none e
    rcases hw with hw | hw
    · obtain ⟨s, hs⟩ := fits_whole hf hw (x % 2 ^ k)
      rw [hno s] at hs; cases hs
    · have hp : ∀ s, pfit l x k s = false := fun s => by
        unfold pfit
        rw [decide_eq_false_iff_not]
        rintro ⟨h1, h2⟩
        obtain ⟨h3, h4⟩ := hw s h1
        have h5 := hno s
        unfold fits at h5
        rw [decide_eq_false_iff_not, h3, h4] at h5
        rw [h3, h4, Nat.zero_mod] at h2
        apply h5
        refine ⟨by decide, ?_⟩
        cases k with
        | zero => simp [Nat.mod_one]
        | succ k =>
          rw [Nat.min_eq_left (by omega)] at h2
          rw [Nat.mod_mod_of_dvd _ (Nat.pow_dvd_pow 2 (by omega))]
          exact h2
      have h1 : (List.range l.length).find? (fun s => pfit l x k s && decide (l.getD s 0 ≤ k)) = none := List.find?_eq_none.2 fun s _ => by simp [hp s]
      have h2 : (List.range l.length).any (pfit l x k) = false := List.any_eq_false.2 fun s _ => by simp [hp s]
      rw [h1, h2]; rfl
  | some s =>
    have hs := findS_some e
    obtain ⟨n, h1, h2, h3⟩ := fits_get hs
    have hl := (List.getElem?_eq_some_iff.1 h1).1
    have huniq : ∀ t, pfit l x k t = true → l.getD t 0 ≤ k → t = s := fun t ht hk => by
      have hpos : 0 < l.getD t 0 := by unfold pfit at ht; rw [decide_eq_true_eq] at ht; exact ht.1
      obtain ⟨m, hm⟩ : ∃ m, l[t]? = some m := by
        cases hh : l[t]? with
        | none => simp [List.getD, hh] at hpos
        | some m => exact ⟨m, rfl⟩
      rw [pfit_fits l x k t m hm (by rw [getD_of hm] at hk; exact hk), ← fits_mod l x t k hk] at ht
      exact fits_one hf ht hs
    by_cases hk : k < n
    · have hnone : (List.range l.length).find? (fun s => pfit l x k s && decide (l.getD s 0 ≤ k)) = none := List.find?_eq_none.2 fun t _ ht => by
        rw [Bool.and_eq_true, decide_eq_true_eq] at ht
        have := huniq t ht.1 ht.2
        subst this
        have := ht.2
        omega
      have hany : (List.range l.length).any (pfit l x k) = true := List.any_eq_true.2 ⟨s, List.mem_range.2 hl, by
        unfold pfit
        unfold fits at hs
        rw [decide_eq_true_eq, h3] at hs
        rw [decide_eq_true_eq, h3, Nat.min_eq_right (by omega), ← hs.2, Nat.mod_mod_of_dvd _ (Nat.pow_dvd_pow 2 (by omega)), Nat.mod_mod]
        exact ⟨h2, rfl⟩⟩
      rw [hnone, hany]
      simp only [h3, if_pos hk, if_true]
    · have hfit : pfit l x k s = true := by rw [pfit_fits l x k s n h1 (by omega), ← fits_mod l x s k (by omega)]; exact hs
      have hfind : (List.range l.length).find? (fun s => pfit l x k s && decide (l.getD s 0 ≤ k)) = some s := by
        cases hh : (List.range l.length).find? (fun s => pfit l x k s && decide (l.getD s 0 ≤ k)) with
        | none =>
          have := List.find?_eq_none.1 hh s (List.mem_range.2 hl)
          rw [hfit, h3, decide_eq_true (by omega)] at this
          simp at this
        | some t =>
          have ht := List.find?_some hh
          simp only [Bool.and_eq_true, decide_eq_true_eq] at ht
          rw [huniq t ht.1 ht.2]
      rw [hfind]
      simp only [h3, if_neg hk]
end Go.Proofs.YtciejmlhdmjajaaGreat
namespace Go.Proofs.YtciejmlhdmjajaaGreat
open Go.RowKit
set_option linter.unusedVariables false
set_option linter.unusedSimpArgs false

/-- A cell of the first table, behind the first j symbols. -/
def cellF (l : List Nat) (F : Nat) : Nat → Nat → Nat × Nat
  | 0, _ => (0, 0)
  | j + 1, i => if 0 < l.getD j 0 ∧ l.getD j 0 ≤ F ∧ i % 2 ^ l.getD j 0 = wb l j then (j, l.getD j 0) else cellF l F j i
/-- Is a symbol's code longer than the first table's bits, and begins it with row k? -/
def inRow (l : List Nat) (F k s : Nat) : Bool := decide (F < l.getD s 0 ∧ wb l s % 2 ^ F = k)
/-- How long row k's codes are at most, behind the first table's bits; 0: there is none. -/
def lng (l : List Nat) (F : Nat) : Nat → Nat → Nat
  | 0, _ => 0
  | j + 1, k => if inRow l F k j then max (lng l F j k) (l.getD j 0 - F) else lng l F j k
/-- A cell of row k's table, behind the first j symbols. -/
def cellM (l : List Nat) (F k : Nat) : Nat → Nat → Nat × Nat
  | 0, _ => (0, 0)
  | j + 1, i => if inRow l F k j ∧ i % 2 ^ (l.getD j 0 - F) = wb l j / 2 ^ F then (j, l.getD j 0) else cellM l F k j i

theorem cellF_or (l : List Nat) (F j i : Nat) : cellF l F j i = (0, 0) ∧ (∀ s, s < j → l.getD s 0 ≤ F → fits l i s = false) ∨ ∃ s, s < j ∧ cellF l F j i = (s, l.getD s 0) ∧ fits l i s = true ∧ l.getD s 0 ≤ F := by
  induction j with
  | zero => left; exact ⟨rfl, fun s hs => by omega⟩
  | succ j ih =>
    simp only [cellF]
    by_cases h : 0 < l.getD j 0 ∧ l.getD j 0 ≤ F ∧ i % 2 ^ l.getD j 0 = wb l j
    · right
      rw [if_pos h]
      exact ⟨j, by omega, rfl, by unfold fits; rw [decide_eq_true_eq]; exact ⟨h.1, h.2.2⟩, h.2.1⟩
    · rw [if_neg h]
      rcases ih with ⟨h1, h2⟩ | ⟨s, h1, h2⟩
      · left
        refine ⟨h1, fun s hs hF => ?_⟩
        by_cases hsj : s = j
        · subst hsj
          unfold fits
          rw [decide_eq_false_iff_not]
          exact fun k => h ⟨k.1, hF, k.2⟩
        · exact h2 s (by omega) hF
      · right; exact ⟨s, by omega, h2⟩
theorem cellM_or (l : List Nat) (F k j i : Nat) : cellM l F k j i = (0, 0) ∧ (∀ s, s < j → inRow l F k s = true → i % 2 ^ (l.getD s 0 - F) ≠ wb l s / 2 ^ F) ∨ ∃ s, s < j ∧ cellM l F k j i = (s, l.getD s 0) ∧ inRow l F k s = true ∧ i % 2 ^ (l.getD s 0 - F) = wb l s / 2 ^ F := by
  induction j with
  | zero => left; exact ⟨rfl, fun s hs => by omega⟩
  | succ j ih =>
    simp only [cellM]
    by_cases h : inRow l F k j = true ∧ i % 2 ^ (l.getD j 0 - F) = wb l j / 2 ^ F
    · right
      rw [if_pos h]
      exact ⟨j, by omega, rfl, h.1, h.2⟩
    · rw [if_neg h]
      rcases ih with ⟨h1, h2⟩ | ⟨s, h1, h2⟩
      · left
        refine ⟨h1, fun s hs hF => ?_⟩
        by_cases hsj : s = j
        · subst hsj; exact fun e => h ⟨hF, e⟩
        · exact h2 s (by omega) hF
      · right; exact ⟨s, by omega, h2⟩
theorem lng_ge (l : List Nat) (F j k s : Nat) (hs : s < j) (h : inRow l F k s = true) : l.getD s 0 - F ≤ lng l F j k := by
  induction j with
  | zero => omega
  | succ j ih =>
    simp only [lng]
    by_cases hsj : s = j
    · subst hsj; rw [if_pos h]; exact Nat.le_max_right _ _
    · have := ih (by omega)
      split
      · exact Nat.le_trans this (Nat.le_max_left _ _)
      · exact this
theorem lng_pos (l : List Nat) (F j k : Nat) (h : 0 < lng l F j k) : ∃ s, s < j ∧ inRow l F k s = true := by
  induction j with
  | zero => simp [lng] at h
  | succ j ih =>
    simp only [lng] at h
    by_cases hj : inRow l F k j = true
    · exact ⟨j, by omega, hj⟩
    · rw [if_neg hj] at h
      obtain ⟨s, h1, h2⟩ := ih h
      exact ⟨s, by omega, h2⟩
theorem lng_le (l : List Nat) (F j k : Nat) (h : ∀ x ∈ l, x ≤ 15) : lng l F j k ≤ 15 - F := by
  have hx : ∀ s, l.getD s 0 ≤ 15 := fun s => by
    cases hs : l[s]? with
    | none => simp [List.getD, hs]
    | some n => rw [getD_of hs]; exact h n (List.mem_of_getElem? hs)
  induction j with
  | zero => simp [lng]
  | succ j ih =>
    simp only [lng]
    have := hx j
    split
    · omega
    · exact ih
theorem lng_no (l : List Nat) (F j k : Nat) (h : 2 ^ F ≤ k) : lng l F j k = 0 := by
  rcases Nat.eq_zero_or_pos (lng l F j k) with h0 | h0
  · exact h0
  · obtain ⟨s, _, h2⟩ := lng_pos l F j k h0
    unfold inRow at h2
    rw [decide_eq_true_eq] at h2
    have := Nat.mod_lt (wb l s) (show 0 < 2 ^ F from Nat.pow_pos (by decide))
    omega

theorem pow_mul_mod (x F n : Nat) (h : F ≤ n) : x % 2 ^ n = x % 2 ^ F + 2 ^ F * (x / 2 ^ F % 2 ^ (n - F)) := by
  rw [show 2 ^ n = 2 ^ F * 2 ^ (n - F) by rw [← Nat.pow_add]; congr 1; omega, Nat.mod_mul]
theorem wb_fits {l : List Nat} {t n : Nat} (ht : l[t]? = some n) (hn : 0 < n) : fits l (wb l t) t = true := by
  unfold fits
  rw [decide_eq_true_eq, getD_of ht]
  exact ⟨hn, Nat.mod_eq_of_lt (wb_lt l t n ht)⟩
theorem get_of_pos {l : List Nat} {s : Nat} (h : 0 < l.getD s 0) : ∃ n, l[s]? = some n ∧ l.getD s 0 = n ∧ 0 < n := by
  cases hh : l[s]? with
  | none => simp [List.getD, hh] at h
  | some m => exact ⟨m, rfl, getD_of hh, by rwa [getD_of hh] at h⟩
/-- What a look into the table finds. -/
def cellOf (l : List Nat) (F y : Nat) : Nat × Nat :=
  if lng l F l.length (y % 2 ^ F) = 0 then cellF l F l.length (y % 2 ^ F) else cellM l F (y % 2 ^ F) l.length (y / 2 ^ F % 2 ^ lng l F l.length (y % 2 ^ F))
theorem cellOf_eq (l : List Nat) (F y : Nat) (hf : Fine l) : cellOf l F y = match findS l y with
    | none => (0, 0)
    | some s => (s, l.getD s 0) := by
  unfold cellOf
  by_cases h0 : lng l F l.length (y % 2 ^ F) = 0
  · rw [if_pos h0]
    rcases cellF_or l F l.length (y % 2 ^ F) with ⟨h1, h2⟩ | ⟨s, h1, h2, h3, h4⟩
    · rw [h1]
      cases e : findS l y with
      | none => rfl
      | some s =>
        exfalso
        have hs := findS_some e
        obtain ⟨n, g1, g2, g3⟩ := fits_get hs
        have hl := (List.getElem?_eq_some_iff.1 g1).1
        by_cases hn : n ≤ F
        · have := h2 s hl (by omega)
          rw [fits_mod l y s F (by omega), hs] at this
          cases this
        · have hin : inRow l F (y % 2 ^ F) s = true := by
            unfold inRow
            unfold fits at hs
            rw [decide_eq_true_eq] at hs ⊢
            refine ⟨by omega, ?_⟩
            rw [← hs.2, g3, Nat.mod_mod_of_dvd _ (Nat.pow_dvd_pow 2 (by omega))]
          have := lng_ge l F l.length _ s hl hin
          omega
    · rw [h2]
      rw [fits_mod l y s F h4] at h3
      rw [findS_of hf h3]
  · rw [if_neg h0]
    obtain ⟨t, ht1, ht2⟩ := lng_pos l F l.length (y % 2 ^ F) (by omega)
    have ht2' := ht2
    unfold inRow at ht2'
    rw [decide_eq_true_eq] at ht2'
    obtain ⟨nt, ht3, ht4, ht5⟩ := get_of_pos (l := l) (s := t) (by omega)
    rcases cellM_or l F (y % 2 ^ F) l.length (y / 2 ^ F % 2 ^ lng l F l.length (y % 2 ^ F)) with ⟨h1, h2⟩ | ⟨s, h1, h2, h3, h4⟩
    · rw [h1]
      cases e : findS l y with
      | none => rfl
      | some s =>
        exfalso
        have hs := findS_some e
        obtain ⟨n, g1, g2, g3⟩ := fits_get hs
        have hl := (List.getElem?_eq_some_iff.1 g1).1
        have hs' := hs
        unfold fits at hs'
        rw [decide_eq_true_eq, g3] at hs'
        by_cases hn : n ≤ F
        · have hft : fits l (wb l t) s = true := by
            unfold fits
            rw [decide_eq_true_eq, g3]
            refine ⟨g2, ?_⟩
            rw [← hs'.2, ← Nat.mod_mod_of_dvd (wb l t) (Nat.pow_dvd_pow 2 hn), ht2'.2, Nat.mod_mod_of_dvd _ (Nat.pow_dvd_pow 2 hn)]
          have := fits_one hf hft (wb_fits ht3 ht5)
          subst this
          omega
        · have hin : inRow l F (y % 2 ^ F) s = true := by
            unfold inRow
            rw [decide_eq_true_eq, g3]
            refine ⟨by omega, ?_⟩
            rw [← hs'.2, Nat.mod_mod_of_dvd _ (Nat.pow_dvd_pow 2 (by omega))]
          have hge := lng_ge l F l.length _ s hl hin
          apply h2 s hl hin
          rw [Nat.mod_mod_of_dvd _ (Nat.pow_dvd_pow 2 hge), ← hs'.2, g3, pow_mul_mod y F n (by omega), Nat.add_mul_div_left _ _ (Nat.pow_pos (by decide)), Nat.div_eq_of_lt (Nat.mod_lt _ (Nat.pow_pos (by decide))), Nat.zero_add]
    · rw [h2]
      have h3' := h3
      unfold inRow at h3'
      rw [decide_eq_true_eq] at h3'
      obtain ⟨n, g1, g2, g3⟩ := get_of_pos (l := l) (s := s) (by omega)
      have hl := (List.getElem?_eq_some_iff.1 g1).1
      have hge := lng_ge l F l.length _ s hl h3
      have hfit : fits l y s = true := by
        unfold fits
        rw [decide_eq_true_eq]
        refine ⟨by omega, ?_⟩
        rw [Nat.mod_mod_of_dvd _ (Nat.pow_dvd_pow 2 hge)] at h4
        rw [pow_mul_mod y F (l.getD s 0) (by omega), h4, ← h3'.2, Nat.mod_add_div]
      rw [findS_of hf hfit]
end Go.Proofs.YtciejmlhdmjajaaGreat

