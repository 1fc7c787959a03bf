/- Symbols behind each other, written and read, plain. -/
import Derived.Test.YtmnipgmheapfbaaHu
import Derived.Test.YtmnipgmheapfbaaHr
namespace Go.Proofs.Ytmnipgmheapfbaa
open Go.RowKit
set_option linter.unusedVariables false
set_option linter.unusedSimpArgs false

/-- How many bits symbols take, and which number these are. -/
def lenS (l : List Nat) : List Nat → Nat
  | [] => 0
  | s :: r => l.getD s 0 + lenS l r
def numS (l : List Nat) : List Nat → Nat
  | [] => 0
  | s :: r => wb l s + 2 ^ l.getD s 0 * numS l r
theorem lenS_append (l a b : List Nat) : lenS l (a ++ b) = lenS l a + lenS l b := by
  induction a with
  | nil => simp [lenS]
  | cons s a ih => simp only [List.cons_append, lenS, ih]; omega
theorem numS_append (l a b : List Nat) : numS l (a ++ b) = numS l a + 2 ^ lenS l a * numS l b := by
  induction a with
  | nil => simp [numS, lenS]
  | cons s a ih => simp only [List.cons_append, numS, lenS, ih]; rw [Nat.pow_add, Nat.mul_add, Nat.add_assoc, Nat.mul_assoc]
theorem wb_lt' (l : List Nat) (s : Nat) : wb l s < 2 ^ l.getD s 0 := turnN_lt _ _
theorem numS_lt (l a : List Nat) : numS l a < 2 ^ lenS l a := by
  induction a with
  | nil => simp [numS, lenS]
  | cons s a ih =>
    simp only [numS, lenS]
    have h1 := wb_lt' l s
    rw [Nat.pow_add]
    have h2 : 2 ^ l.getD s 0 * (numS l a + 1) ≤ 2 ^ l.getD s 0 * 2 ^ lenS l a := Nat.mul_le_mul_left _ ih
    rw [Nat.mul_add, Nat.mul_one] at h2
    omega
theorem lenS_le {l : List Nat} (h : ∀ x ∈ l, x ≤ 15) (a : List Nat) : lenS l a ≤ 15 * a.length := by
  induction a with
  | nil => simp [lenS]
  | cons s a ih => simp only [lenS, List.length_cons]; have := getD_le h s; omega
theorem num_wt (N L : Nat) (h : N < 2 ^ L) : num (wtext N L) = N := by
  rw [wtext, num_leb, pow256]
  exact Nat.mod_eq_of_lt (Nat.lt_of_lt_of_le h (Nat.pow_le_pow_right (by decide) (by omega)))
theorem size_wt (N L : Nat) : (wtext N L).size = (L + 7) / 8 := size_leb _ _
theorem pick_mod (A B x R n y : Nat) (hA : A < 2 ^ B) (hx : x < 2 ^ n) : (A + 2 ^ B * (x + 2 ^ n * R) + 2 ^ (B + n) * y) / 2 ^ B % 2 ^ n = x := by
  rw [Nat.pow_add, Nat.mul_assoc, Nat.add_assoc, ← Nat.mul_add, Nat.add_mul_div_left _ _ (Nat.pow_pos (by decide)), Nat.div_eq_of_lt hA, Nat.zero_add, Nat.add_assoc, ← Nat.mul_add, Nat.add_mul_mod_self_left, Nat.mod_eq_of_lt hx]
/-- A symbol that stands there is the one that is read. -/
theorem next_at (l : List Nat) (hf : Fine l) (T : ByteArray) (a s n : Nat) (hs : l.getD s 0 = n) (hn : 0 < n) (hroom : a + n ≤ 8 * T.size) (hnum : num T / 2 ^ a % 2 ^ n = wb l s) : nextN l T a = (s, n, 0) := by
  have h15 := getD_le hf.le s
  rw [hs] at h15
  have hH : n ≤ peekH T a 15 := by unfold peekH; omega
  unfold nextN lookN
  have hX : peekN T a 15 % 2 ^ peekH T a 15 = peekN T a 15 := by unfold peekN; rw [Nat.mod_mod]
  have hfit : fits l (peekN T a 15) s = true := by
    unfold fits
    rw [decide_eq_true_eq, hs]
    refine ⟨hn, ?_⟩
    unfold peekN
    rw [Nat.mod_mod_of_dvd _ (Nat.pow_dvd_pow 2 hH), hnum]
  rw [hX, findS_of hf hfit]
  simp only [hs]
  rw [if_neg (by omega)]
theorem next_sym (l : List Nat) (hf : Fine l) (pre post : List Nat) (s beh : Nat) (T : ByteArray) (hs : 0 < l.getD s 0) (hnum : num T = numS l (pre ++ s :: post) + 2 ^ lenS l (pre ++ s :: post) * beh) (hsz : lenS l (pre ++ s :: post) ≤ 8 * T.size) :
    nextN l T (lenS l pre) = (s, l.getD s 0, 0) := by
  refine next_at l hf T _ s _ rfl hs ?_ ?_
  · rw [lenS_append] at hsz
    simp only [lenS] at hsz
    omega
  · rw [hnum, numS_append, lenS_append]
    simp only [numS, lenS]
    rw [← Nat.add_assoc (lenS l pre), Nat.pow_add 2 (lenS l pre + l.getD s 0), Nat.mul_assoc (2 ^ (lenS l pre + l.getD s 0))]
    exact pick_mod _ _ _ _ _ _ (numS_lt l pre) (wb_lt' l s)
/-- What Next reads stands there. -/
theorem next_is (l : List Nat) (hf : Fine l) (T : ByteArray) (a : Nat) (he : (nextN l T a).2.2 = 0) : 0 < l.getD (nextN l T a).1 0 ∧ (nextN l T a).1 < l.length ∧ (nextN l T a).2.1 = l.getD (nextN l T a).1 0 ∧ a + (nextN l T a).2.1 ≤ 8 * T.size ∧ num T / 2 ^ a % 2 ^ (nextN l T a).2.1 = wb l (nextN l T a).1 := by
  unfold nextN lookN at he ⊢
  have hX : peekN T a 15 % 2 ^ peekH T a 15 = peekN T a 15 := by unfold peekN; rw [Nat.mod_mod]
  rw [hX] at he ⊢
  cases e : findS l (peekN T a 15) with
  | none => rw [e] at he; simp at he
  | some s =>
    rw [e] at he
    simp only at he ⊢
    obtain ⟨n, h1, h2, h3⟩ := fits_get (findS_some e)
    by_cases hc : peekH T a 15 < l.getD s 0
    · rw [if_pos hc] at he; simp at he
    · rw [if_neg hc]
      simp only
      have hfit := findS_some e
      unfold fits at hfit
      rw [decide_eq_true_eq] at hfit
      refine ⟨by omega, (List.getElem?_eq_some_iff.1 h1).1, trivial, ?_, ?_⟩
      · unfold peekH at hc; omega
      · rw [← hfit.2]
        unfold peekN
        rw [Nat.mod_mod_of_dvd _ (Nat.pow_dvd_pow 2 (by omega))]
theorem next_end (l : List Nat) (hf : Fine l) (T : ByteArray) (a : Nat) (he : (nextN l T a).2.2 = 6) : 8 * T.size - a < 15 := by
  unfold nextN lookN at he
  rcases Nat.lt_or_ge (8 * T.size - a) 15 with h | h
  · exact h
  · exfalso
    have hH : peekH T a 15 = 15 := by unfold peekH; omega
    cases e : findS l (peekN T a 15 % 2 ^ peekH T a 15) with
    | none => rw [e] at he; simp at he
    | some s =>
      rw [e] at he
      simp only at he
      have := getD_le hf.le s
      rw [if_neg (by omega)] at he
      simp at he
end Go.Proofs.Ytmnipgmheapfbaa

