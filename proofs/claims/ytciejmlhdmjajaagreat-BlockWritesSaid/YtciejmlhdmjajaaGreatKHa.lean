/- Canonical codes, in plain Lean: where each code stands, that none begins another one, that whole ones leave out nothing. -/
import Derived.Test.YtciejmlhdmjajaaGreatKWc
namespace Go.Proofs.YtciejmlhdmjajaaGreat
open Go.RowKit
set_option linter.unusedVariables false
set_option linter.unusedSimpArgs false

/-- How many codes there are of length n. -/
def cnt : List Nat → Nat → Nat
  | [], _ => 0
  | x :: l, n => (if x = n then 1 else 0) + cnt l n
theorem cnt_append (a b : List Nat) (n : Nat) : cnt (a ++ b) n = cnt a n + cnt b n := by
  induction a with
  | nil => simp [cnt]
  | cons x a ih => simp only [List.cons_append, cnt, ih]; omega
theorem cnt_le (l : List Nat) (n : Nat) : cnt l n ≤ l.length := by
  induction l with
  | nil => simp [cnt]
  | cons x l ih => simp only [cnt, List.length_cons]; split <;> omega
theorem cnt_take (l : List Nat) (i n x : Nat) (h : l[i]? = some x) : cnt (l.take (i + 1)) n = cnt (l.take i) n + (if x = n then 1 else 0) := by
  obtain ⟨hi, he⟩ := List.getElem?_eq_some_iff.1 h
  rw [List.take_succ_eq_append_getElem hi, cnt_append, he]
  simp [cnt]
theorem cnt_take_le (l : List Nat) (i j n : Nat) (h : i ≤ j) : cnt (l.take i) n ≤ cnt (l.take j) n := by
  have := cnt_append (l.take i) ((l.drop i).take (j - i)) n
  rw [← List.take_add, show i + (j - i) = j by omega] at this
  omega
theorem cnt_all (l : List Nat) (i n : Nat) : cnt (l.take i) n ≤ cnt l n := by
  have := cnt_append (l.take i) (l.drop i) n
  rw [List.take_append_drop] at this
  omega
/-- The q-th code of length n. -/
theorem cnt_find (l : List Nat) (n q : Nat) (h : q < cnt l n) : ∃ s, l[s]? = some n ∧ cnt (l.take s) n = q := by
  induction l generalizing q with
  | nil => simp [cnt] at h
  | cons x l ih =>
    simp only [cnt] at h
    by_cases hx : x = n
    · subst hx
      cases q with
      | zero => exact ⟨0, rfl, rfl⟩
      | succ q =>
        obtain ⟨s, h1, h2⟩ := ih q (by simp at h; omega)
        exact ⟨s + 1, by simpa using h1, by simp only [List.take_succ_cons, cnt, if_true, h2]; omega⟩
    · obtain ⟨s, h1, h2⟩ := ih q (by simp [hx] at h; omega)
      exact ⟨s + 1, by simpa using h1, by simp only [List.take_succ_cons, cnt, if_neg hx, h2]; omega⟩

/-- What the codes of lengths up to k weigh. -/
def wt (l : List Nat) : Nat → Nat
  | 0 => 0
  | k + 1 => wt l k + cnt l (k + 1) * 2 ^ (15 - (k + 1))
/-- How many codes of lengths up to k there are. -/
def allN (l : List Nat) : Nat → Nat
  | 0 => 0
  | k + 1 => allN l k + cnt l (k + 1)
theorem wt_le (l : List Nat) {j k : Nat} (h : j ≤ k) : wt l j ≤ wt l k := by
  induction k with
  | zero => rw [show j = 0 by omega]; exact Nat.le_refl _
  | succ k ih =>
    by_cases hj : j = k + 1
    · subst hj; exact Nat.le_refl _
    · exact Nat.le_trans (ih (by omega)) (by simp only [wt]; omega)
/-- The first code of length n. -/
def base (l : List Nat) : Nat → Nat
  | 0 => 0
  | 1 => 0
  | n + 2 => (base l (n + 1) + cnt l (n + 1)) * 2
theorem base_wt (l : List Nat) (n : Nat) (h : n < 15) : base l (n + 1) * 2 ^ (15 - (n + 1)) = wt l n := by
  induction n with
  | zero => simp [base, wt]
  | succ n ih =>
    have := ih (by omega)
    simp only [base, wt]
    rw [← this, Nat.mul_assoc, ← Nat.pow_succ', show (15 - (n + 1 + 1)).succ = 15 - (n + 1) by omega, Nat.add_mul]
/-- The code of a symbol, its first bit the greatest. -/
def codeN (l : List Nat) (s : Nat) : Nat := base l (l.getD s 0) + cnt (l.take s) (l.getD s 0)
def lo (l : List Nat) (s : Nat) : Nat := codeN l s * 2 ^ (15 - l.getD s 0)
theorem getD_of {l : List Nat} {s n : Nat} (h : l[s]? = some n) : l.getD s 0 = n := by simp [List.getD, h]
theorem lo_eq {l : List Nat} {s n : Nat} (h : l[s]? = some n) (h1 : 0 < n) (h15 : n ≤ 15) : lo l s = wt l (n - 1) + cnt (l.take s) n * 2 ^ (15 - n) := by
  have := base_wt l (n - 1) (by omega)
  rw [show n - 1 + 1 = n by omega] at this
  unfold lo codeN
  rw [getD_of h, Nat.add_mul, this]
theorem cnt_lt {l : List Nat} {s n : Nat} (h : l[s]? = some n) : cnt (l.take s) n + 1 ≤ cnt l n := by
  have h1 := cnt_take l s n n h
  rw [if_pos rfl] at h1
  have := cnt_all l (s + 1) n
  omega
theorem hi_le {l : List Nat} {s n : Nat} (h : l[s]? = some n) (h1 : 0 < n) (h15 : n ≤ 15) : lo l s + 2 ^ (15 - n) ≤ wt l n := by
  rw [lo_eq h h1 h15]
  obtain ⟨k, rfl⟩ : ∃ k, n = k + 1 := ⟨n - 1, by omega⟩
  have := Nat.mul_le_mul_right (2 ^ (15 - (k + 1))) (cnt_lt h)
  rw [Nat.add_mul, Nat.one_mul] at this
  simp only [wt, Nat.add_sub_cancel]
  omega
theorem apart_codes {l : List Nat} {s t n m : Nat} (hs : l[s]? = some n) (ht : l[t]? = some m) (hn : 0 < n) (hm : 0 < m) (hn15 : n ≤ 15) (hm15 : m ≤ 15) (hst : s ≠ t) : lo l s + 2 ^ (15 - n) ≤ lo l t ∨ lo l t + 2 ^ (15 - m) ≤ lo l s := by
  rcases Nat.lt_trichotomy n m with h | h | h
  · left
    have h1 := hi_le hs hn hn15
    have h2 := wt_le l (show n ≤ m - 1 by omega)
    have h3 := lo_eq ht hm hm15
    omega
  · subst h
    rcases Nat.lt_or_gt_of_ne hst with h | h
    · left
      have h1 := cnt_take l s n n hs
      rw [if_pos rfl] at h1
      have h2 := cnt_take_le l (s + 1) t n h
      rw [lo_eq hs hn hn15, lo_eq ht hm hm15]
      have := Nat.mul_le_mul_right (2 ^ (15 - n)) (show cnt (l.take s) n + 1 ≤ cnt (l.take t) n by omega)
      rw [Nat.add_mul, Nat.one_mul] at this
      omega
    · right
      have h1 := cnt_take l t n n ht
      rw [if_pos rfl] at h1
      have h2 := cnt_take_le l (t + 1) s n h
      rw [lo_eq hs hn hn15, lo_eq ht hm hm15]
      have := Nat.mul_le_mul_right (2 ^ (15 - n)) (show cnt (l.take t) n + 1 ≤ cnt (l.take s) n by omega)
      rw [Nat.add_mul, Nat.one_mul] at this
      omega
  · right
    have h1 := hi_le ht hm hm15
    have h2 := wt_le l (show m ≤ n - 1 by omega)
    have h3 := lo_eq hs hn hn15
    omega
/-- Each row below what all of them weigh begins with a code. -/
theorem covered (l : List Nat) (k R : Nat) (hk : k ≤ 15) (h : R < wt l k) : ∃ s n, l[s]? = some n ∧ 0 < n ∧ n ≤ k ∧ lo l s ≤ R ∧ R < lo l s + 2 ^ (15 - n) := by
  induction k with
  | zero => simp [wt] at h
  | succ k ih =>
    by_cases hR : R < wt l k
    · obtain ⟨s, n, h1, h2, h3, h4⟩ := ih (by omega) hR
      exact ⟨s, n, h1, h2, by omega, h4⟩
    · simp only [wt] at h
      have hp : 0 < 2 ^ (15 - (k + 1)) := Nat.pow_pos (by decide)
      have hq : (R - wt l k) / 2 ^ (15 - (k + 1)) < cnt l (k + 1) := (Nat.div_lt_iff_lt_mul hp).2 (by omega)
      obtain ⟨s, h1, h2⟩ := cnt_find l (k + 1) _ hq
      refine ⟨s, k + 1, h1, by omega, by omega, ?_⟩
      rw [lo_eq h1 (by omega) hk, h2, Nat.add_sub_cancel]
      have := Nat.div_mul_le_self (R - wt l k) (2 ^ (15 - (k + 1)))
      have h5 := Nat.div_add_mod (R - wt l k) (2 ^ (15 - (k + 1)))
      have h6 := Nat.mod_lt (R - wt l k) hp
      rw [Nat.mul_comm] at h5
      omega

/-! ### weights by symbols -/
def wsum : List Nat → Nat
  | [] => 0
  | x :: l => (if x = 0 then 0 else 2 ^ (15 - x)) + wsum l
theorem wt_cons (x : Nat) (l : List Nat) (k : Nat) : wt (x :: l) k = wt l k + (if 0 < x ∧ x ≤ k then 2 ^ (15 - x) else 0) := by
  induction k with
  | zero => simp [wt]; omega
  | succ k ih =>
    simp only [wt, ih, cnt]
    by_cases h : x = k + 1
    · subst h
      rw [if_pos rfl, if_neg (by omega), if_pos (by omega), Nat.add_mul, Nat.one_mul]; omega
    · rw [if_neg h, Nat.zero_add]
      by_cases h2 : 0 < x ∧ x ≤ k
      · rw [if_pos h2, if_pos (by omega)]; omega
      · rw [if_neg h2, if_neg (by omega)]; rfl
theorem wsum_eq (l : List Nat) (h : ∀ x ∈ l, x ≤ 15) : wsum l = wt l 15 := by
  induction l with
  | nil => rfl
  | cons x l ih =>
    rw [wt_cons, wsum, ih (fun y hy => h y (by simp [hy]))]
    have := h x (by simp)
    by_cases hx : x = 0
    · rw [if_pos hx, if_neg (by omega)]; omega
    · rw [if_neg hx, if_pos (by omega)]; omega
theorem allN_cons (x : Nat) (l : List Nat) (k : Nat) : allN (x :: l) k = allN l k + (if 0 < x ∧ x ≤ k then 1 else 0) := by
  induction k with
  | zero => simp [allN]; omega
  | succ k ih =>
    simp only [allN, ih, cnt]
    by_cases h : x = k + 1
    · subst h
      rw [if_pos rfl, if_neg (by omega), if_pos (by omega)]; omega
    · rw [if_neg h, Nat.zero_add]
      by_cases h2 : 0 < x ∧ x ≤ k
      · rw [if_pos h2, if_pos (by omega)]; omega
      · rw [if_neg h2, if_neg (by omega)]; rfl
/-- What lengths are: P5.1's kinds. -/
def badL (l : List Nat) : Bool := decide (320 < l.length) || l.any fun x => decide (15 < x)
def kindN (l : List Nat) : Nat :=
  if badL l then 5 else if allN l 15 = 0 then 0 else if 32768 < wt l 15 then 4 else if wt l 15 = 32768 then 2 else if allN l 15 = 1 ∧ cnt l 1 = 1 then 1 else 3
theorem kind_ok {l : List Nat} (h : badL l = false) : l.length ≤ 320 ∧ ∀ x ∈ l, x ≤ 15 := by
  unfold badL at h
  rw [Bool.or_eq_false_iff, decide_eq_false_iff_not] at h
  refine ⟨by omega, fun x hx => ?_⟩
  have := List.any_eq_false.1 h.2 x hx
  simp at this
  omega
end Go.Proofs.YtciejmlhdmjajaaGreat

