/- A table's cells, in plain Lean: what stands in each behind all symbols, and that this is what is looked for. -/
import Derived.Test.YtmajacfcfdljeaaHb
namespace Go.Proofs.Ytmajacfcfdljeaa
open Go.RowKit
set_option linter.unusedVariables false
set_option linter.unusedSimpArgs false

/-- A cell of the first table, behind the first j symbols. -/
def cellF (l : List Nat) (F : Nat) : Nat → Nat → Nat × Nat
  | 0, _ => (0, 0)
  | j + 1, i => if 0 < l.getD j 0 ∧ l.getD j 0 ≤ F ∧ i % 2 ^ l.getD j 0 = wb l j then (j, l.getD j 0) else cellF l F j i
/-- Is a symbol's code longer than the first table's bits, and begins it with row k? -/
def inRow (l : List Nat) (F k s : Nat) : Bool := decide (F < l.getD s 0 ∧ wb l s % 2 ^ F = k)
/-- How long row k's codes are at most, behind the first table's bits; 0: there is none. -/
def lng (l : List Nat) (F : Nat) : Nat → Nat → Nat
  | 0, _ => 0
  | j + 1, k => if inRow l F k j then max (lng l F j k) (l.getD j 0 - F) else lng l F j k
/-- A cell of row k's table, behind the first j symbols. -/
def cellM (l : List Nat) (F k : Nat) : Nat → Nat → Nat × Nat
  | 0, _ => (0, 0)
  | j + 1, i => if inRow l F k j ∧ i % 2 ^ (l.getD j 0 - F) = wb l j / 2 ^ F then (j, l.getD j 0) else cellM l F k j i

theorem cellF_or (l : List Nat) (F j i : Nat) : cellF l F j i = (0, 0) ∧ (∀ s, s < j → l.getD s 0 ≤ F → fits l i s = false) ∨ ∃ s, s < j ∧ cellF l F j i = (s, l.getD s 0) ∧ fits l i s = true ∧ l.getD s 0 ≤ F := by
  induction j with
  | zero => left; exact ⟨rfl, fun s hs => by omega⟩
  | succ j ih =>
    simp only [cellF]
    by_cases h : 0 < l.getD j 0 ∧ l.getD j 0 ≤ F ∧ i % 2 ^ l.getD j 0 = wb l j
    · right
      rw [if_pos h]
      exact ⟨j, by omega, rfl, by unfold fits; rw [decide_eq_true_eq]; exact ⟨h.1, h.2.2⟩, h.2.1⟩
    · rw [if_neg h]
      rcases ih with ⟨h1, h2⟩ | ⟨s, h1, h2⟩
      · left
        refine ⟨h1, fun s hs hF => ?_⟩
        by_cases hsj : s = j
        · subst hsj
          unfold fits
          rw [decide_eq_false_iff_not]
          exact fun k => h ⟨k.1, hF, k.2⟩
        · exact h2 s (by omega) hF
      · right; exact ⟨s, by omega, h2⟩
theorem cellM_or (l : List Nat) (F k j i : Nat) : cellM l F k j i = (0, 0) ∧ (∀ s, s < j → inRow l F k s = true → i % 2 ^ (l.getD s 0 - F) ≠ wb l s / 2 ^ F) ∨ ∃ s, s < j ∧ cellM l F k j i = (s, l.getD s 0) ∧ inRow l F k s = true ∧ i % 2 ^ (l.getD s 0 - F) = wb l s / 2 ^ F := by
  induction j with
  | zero => left; exact ⟨rfl, fun s hs => by omega⟩
  | succ j ih =>
    simp only [cellM]
    by_cases h : inRow l F k j = true ∧ i % 2 ^ (l.getD j 0 - F) = wb l j / 2 ^ F
    · right
      rw [if_pos h]
      exact ⟨j, by omega, rfl, h.1, h.2⟩
    · rw [if_neg h]
      rcases ih with ⟨h1, h2⟩ | ⟨s, h1, h2⟩
      · left
        refine ⟨h1, fun s hs hF => ?_⟩
        by_cases hsj : s = j
        · subst hsj; exact fun e => h ⟨hF, e⟩
        · exact h2 s (by omega) hF
      · right; exact ⟨s, by omega, h2⟩
theorem lng_ge (l : List Nat) (F j k s : Nat) (hs : s < j) (h : inRow l F k s = true) : l.getD s 0 - F ≤ lng l F j k := by
  induction j with
  | zero => omega
  | succ j ih =>
    simp only [lng]
    by_cases hsj : s = j
    · subst hsj; rw [if_pos h]; exact Nat.le_max_right _ _
    · have := ih (by omega)
      split
      · exact Nat.le_trans this (Nat.le_max_left _ _)
      · exact this
theorem lng_pos (l : List Nat) (F j k : Nat) (h : 0 < lng l F j k) : ∃ s, s < j ∧ inRow l F k s = true := by
  induction j with
  | zero => simp [lng] at h
  | succ j ih =>
    simp only [lng] at h
    by_cases hj : inRow l F k j = true
    · exact ⟨j, by omega, hj⟩
    · rw [if_neg hj] at h
      obtain ⟨s, h1, h2⟩ := ih h
      exact ⟨s, by omega, h2⟩
theorem lng_le (l : List Nat) (F j k : Nat) (h : ∀ x ∈ l, x ≤ 15) : lng l F j k ≤ 15 - F := by
  have hx : ∀ s, l.getD s 0 ≤ 15 := fun s => by
    cases hs : l[s]? with
    | none => simp [List.getD, hs]
    | some n => rw [getD_of hs]; exact h n (List.mem_of_getElem? hs)
  induction j with
  | zero => simp [lng]
  | succ j ih =>
    simp only [lng]
    have := hx j
    split
    · omega
    · exact ih
theorem lng_no (l : List Nat) (F j k : Nat) (h : 2 ^ F ≤ k) : lng l F j k = 0 := by
  rcases Nat.eq_zero_or_pos (lng l F j k) with h0 | h0
  · exact h0
  · obtain ⟨s, _, h2⟩ := lng_pos l F j k h0
    unfold inRow at h2
    rw [decide_eq_true_eq] at h2
    have := Nat.mod_lt (wb l s) (show 0 < 2 ^ F from Nat.pow_pos (by decide))
    omega

theorem pow_mul_mod (x F n : Nat) (h : F ≤ n) : x % 2 ^ n = x % 2 ^ F + 2 ^ F * (x / 2 ^ F % 2 ^ (n - F)) := by
  rw [show 2 ^ n = 2 ^ F * 2 ^ (n - F) by rw [← Nat.pow_add]; congr 1; omega, Nat.mod_mul]
theorem wb_fits {l : List Nat} {t n : Nat} (ht : l[t]? = some n) (hn : 0 < n) : fits l (wb l t) t = true := by
  unfold fits
  rw [decide_eq_true_eq, getD_of ht]
  exact ⟨hn, Nat.mod_eq_of_lt (wb_lt l t n ht)⟩
theorem get_of_pos {l : List Nat} {s : Nat} (h : 0 < l.getD s 0) : ∃ n, l[s]? = some n ∧ l.getD s 0 = n ∧ 0 < n := by
  cases hh : l[s]? with
  | none => simp [List.getD, hh] at h
  | some m => exact ⟨m, rfl, getD_of hh, by rwa [getD_of hh] at h⟩
/-- What a look into the table finds. -/
def cellOf (l : List Nat) (F y : Nat) : Nat × Nat :=
  if lng l F l.length (y % 2 ^ F) = 0 then cellF l F l.length (y % 2 ^ F) else cellM l F (y % 2 ^ F) l.length (y / 2 ^ F % 2 ^ lng l F l.length (y % 2 ^ F))
theorem cellOf_eq (l : List Nat) (F y : Nat) (hf : Fine l) : cellOf l F y = match findS l y with
    | none => (0, 0)
    | some s => (s, l.getD s 0) := by
  unfold cellOf
  by_cases h0 : lng l F l.length (y % 2 ^ F) = 0
  · rw [if_pos h0]
    rcases cellF_or l F l.length (y % 2 ^ F) with ⟨h1, h2⟩ | ⟨s, h1, h2, h3, h4⟩
    · rw [h1]
      cases e : findS l y with
      | none => rfl
      | some s =>
        exfalso
        have hs := findS_some e
        obtain ⟨n, g1, g2, g3⟩ := fits_get hs
        have hl := (List.getElem?_eq_some_iff.1 g1).1
        by_cases hn : n ≤ F
        · have := h2 s hl (by omega)
          rw [fits_mod l y s F (by omega), hs] at this
          cases this
        · have hin : inRow l F (y % 2 ^ F) s = true := by
            unfold inRow
            unfold fits at hs
            rw [decide_eq_true_eq] at hs ⊢
            refine ⟨by omega, ?_⟩
            rw [← hs.2, g3, Nat.mod_mod_of_dvd _ (Nat.pow_dvd_pow 2 (by omega))]
          have := lng_ge l F l.length _ s hl hin
          omega
    · rw [h2]
      rw [fits_mod l y s F h4] at h3
      rw [findS_of hf h3]
  · rw [if_neg h0]
    obtain ⟨t, ht1, ht2⟩ := lng_pos l F l.length (y % 2 ^ F) (by omega)
    have ht2' := ht2
    unfold inRow at ht2'
    rw [decide_eq_true_eq] at ht2'
    obtain ⟨nt, ht3, ht4, ht5⟩ := get_of_pos (l := l) (s := t) (by omega)
    rcases cellM_or l F (y % 2 ^ F) l.length (y / 2 ^ F % 2 ^ lng l F l.length (y % 2 ^ F)) with ⟨h1, h2⟩ | ⟨s, h1, h2, h3, h4⟩
    · rw [h1]
      cases e : findS l y with
      | none => rfl
      | some s =>
        exfalso
        have hs := findS_some e
        obtain ⟨n, g1, g2, g3⟩ := fits_get hs
        have hl := (List.getElem?_eq_some_iff.1 g1).1
        have hs' := hs
        unfold fits at hs'
        rw [decide_eq_true_eq, g3] at hs'
        by_cases hn : n ≤ F
        · have hft : fits l (wb l t) s = true := by
            unfold fits
            rw [decide_eq_true_eq, g3]
            refine ⟨g2, ?_⟩
            rw [← hs'.2, ← Nat.mod_mod_of_dvd (wb l t) (Nat.pow_dvd_pow 2 hn), ht2'.2, Nat.mod_mod_of_dvd _ (Nat.pow_dvd_pow 2 hn)]
          have := fits_one hf hft (wb_fits ht3 ht5)
          subst this
          omega
        · have hin : inRow l F (y % 2 ^ F) s = true := by
            unfold inRow
            rw [decide_eq_true_eq, g3]
            refine ⟨by omega, ?_⟩
            rw [← hs'.2, Nat.mod_mod_of_dvd _ (Nat.pow_dvd_pow 2 (by omega))]
          have hge := lng_ge l F l.length _ s hl hin
          apply h2 s hl hin
          rw [Nat.mod_mod_of_dvd _ (Nat.pow_dvd_pow 2 hge), ← hs'.2, g3, pow_mul_mod y F n (by omega), Nat.add_mul_div_left _ _ (Nat.pow_pos (by decide)), Nat.div_eq_of_lt (Nat.mod_lt _ (Nat.pow_pos (by decide))), Nat.zero_add]
    · rw [h2]
      have h3' := h3
      unfold inRow at h3'
      rw [decide_eq_true_eq] at h3'
      obtain ⟨n, g1, g2, g3⟩ := get_of_pos (l := l) (s := s) (by omega)
      have hl := (List.getElem?_eq_some_iff.1 g1).1
      have hge := lng_ge l F l.length _ s hl h3
      have hfit : fits l y s = true := by
        unfold fits
        rw [decide_eq_true_eq]
        refine ⟨by omega, ?_⟩
        rw [Nat.mod_mod_of_dvd _ (Nat.pow_dvd_pow 2 hge)] at h4
        rw [pow_mul_mod y F (l.getD s 0) (by omega), h4, ← h3'.2, Nat.mod_add_div]
      rw [findS_of hf hfit]
end Go.Proofs.Ytmajacfcfdljeaa

