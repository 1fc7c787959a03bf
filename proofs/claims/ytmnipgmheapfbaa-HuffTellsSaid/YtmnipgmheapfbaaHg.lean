/- How many cells a table has, in plain Lean. -/
import Derived.Test.YtmnipgmheapfbaaHc
namespace Go.Proofs.Ytmnipgmheapfbaa
open Go.RowKit
set_option linter.unusedVariables false
set_option linter.unusedSimpArgs false

/-- A sum over the first n numbers. -/
def sumTo (f : Nat → Nat) : Nat → Nat
  | 0 => 0
  | n + 1 => sumTo f n + f n
theorem sumTo_le (f : Nat → Nat) (c n : Nat) (h : ∀ k, k < n → f k ≤ c) : sumTo f n ≤ n * c := by
  induction n with
  | zero => simp [sumTo]
  | succ n ih =>
    have h1 := ih (fun k hk => h k (by omega))
    have h2 := h n (by omega)
    simp only [sumTo]
    rw [Nat.add_mul, Nat.one_mul]
    omega
theorem sumTo_congr {f g : Nat → Nat} {n : Nat} (h : ∀ k, k < n → f k = g k) : sumTo f n = sumTo g n := by
  induction n with
  | zero => rfl
  | succ n ih => simp only [sumTo]; rw [ih (fun k hk => h k (by omega)), h n (by omega)]
/-- One more of the numbers counts. -/
theorem sumTo_one {f : Nat → Nat} {s : Nat → Bool} {n k : Nat} (hk : k < n) (hs : s k = false) :
    sumTo (fun i => if s i || decide (i = k) then f i else 0) n = sumTo (fun i => if s i then f i else 0) n + f k := by
  induction n with
  | zero => omega
  | succ n ih =>
    simp only [sumTo]
    by_cases h : k = n
    · subst h
      have e : sumTo (fun i => if s i || decide (i = k) then f i else 0) k = sumTo (fun i => if s i then f i else 0) k := sumTo_congr fun i hi => by
        rw [decide_eq_false (by omega), Bool.or_false]
      rw [e, hs]
      simp
    · rw [ih (by omega), decide_eq_false (fun e => h e.symm), Bool.or_false]
      omega
/-- What row k's table has. -/
def rowN (l : List Nat) (F k : Nat) : Nat := if lng l F l.length k = 0 then 0 else 2 ^ lng l F l.length k
/-- P7.1: how many cells there are. -/
def cellsN (l : List Nat) (F : Nat) : Nat := 2 ^ F + sumTo (rowN l F) (2 ^ F)
theorem lng_most (l : List Nat) (F j k m : Nat) (h : ∀ x ∈ l, x ≤ m) : lng l F j k ≤ m - F := by
  have hx : ∀ s, l.getD s 0 ≤ m := fun s => by
    cases hs : l[s]? with
    | none => simp [List.getD, hs]
    | some n => rw [getD_of hs]; exact h n (List.mem_of_getElem? hs)
  induction j with
  | zero => simp [lng]
  | succ j ih =>
    simp only [lng]
    have := hx j
    split
    · omega
    · exact ih
theorem cells_le (l : List Nat) (F m : Nat) (h : ∀ x ∈ l, x ≤ m) : cellsN l F ≤ 2 ^ m + 2 ^ F := by
  unfold cellsN
  by_cases hF : F ≤ m
  · have h1 := sumTo_le (rowN l F) (2 ^ (m - F)) (2 ^ F) (fun k _ => by
      unfold rowN
      split
      · exact Nat.zero_le _
      · exact Nat.pow_le_pow_right (by decide) (lng_most l F l.length k m h))
    rw [← Nat.pow_add, show F + (m - F) = m by omega] at h1
    omega
  · have h1 := sumTo_le (rowN l F) 0 (2 ^ F) (fun k _ => by
      have := lng_most l F l.length k m h
      unfold rowN
      rw [if_pos (by omega)]
      exact Nat.le_refl _)
    rw [Nat.mul_zero] at h1
    have := Nat.zero_le (2 ^ m)
    generalize 2 ^ m = x at *
    omega
end Go.Proofs.Ytmnipgmheapfbaa

