/- The document's way to codes, in plain Lean: one behind the other, by lengths; each is the canonical one. -/
import Derived.Test.YtmnipgmheapfbaaHc
namespace Go.Proofs.Ytmnipgmheapfbaa
open Go.RowKit
set_option linter.unusedVariables false
set_option linter.unusedSimpArgs false

/-- Behind all lengths below n, and the first i symbols of length n. -/
def RefSt (l : List Nat) (n i next size : Nat) (first : Bool) : Prop :=
  (first = true ∧ next = 0 ∧ size = 0 ∧ base l n + cnt (l.take i) n = 0) ∨ (first = false ∧ size ≤ n ∧ (next + 1) * 2 ^ (n - size) = base l n + cnt (l.take i) n)
theorem ref_start (l : List Nat) : RefSt l 1 0 0 0 true := .inl ⟨rfl, rfl, rfl, by simp [base, cnt]⟩
theorem ref_skip {l : List Nat} {n i next size x : Nat} {first : Bool} (h : RefSt l n i next size first) (hx : l[i]? = some x) (hn : x ≠ n) : RefSt l n (i + 1) next size first := by
  have e := cnt_take l i n x hx
  rw [if_neg hn, Nat.add_zero] at e
  unfold RefSt
  rw [e]
  exact h
theorem ref_hit {l : List Nat} {n i next size : Nat} {first : Bool} (h : RefSt l n i next size first) (hx : l[i]? = some n) : size ≤ n ∧ (if first then next else next + 1) * 2 ^ (n - size) = codeN l i ∧ RefSt l n (i + 1) (codeN l i) n false := by
  have e := cnt_take l i n n hx
  rw [if_pos rfl] at e
  have hc : codeN l i = base l n + cnt (l.take i) n := by unfold codeN; rw [getD_of hx]
  have hst : RefSt l n (i + 1) (codeN l i) n false := .inr ⟨rfl, Nat.le_refl _, by rw [Nat.sub_self, Nat.pow_zero, Nat.mul_one, e, hc]; omega⟩
  rcases h with ⟨rfl, rfl, rfl, h4⟩ | ⟨rfl, h2, h3⟩
  · exact ⟨Nat.zero_le _, by rw [hc, h4]; simp, hst⟩
  · exact ⟨h2, by rw [hc, ← h3]; simp, hst⟩
theorem ref_turn {l : List Nat} {n next size : Nat} {first : Bool} (h : RefSt l (n + 1) l.length next size first) : RefSt l (n + 2) 0 next size first := by
  unfold RefSt at h ⊢
  rw [List.take_length] at h
  have e : base l (n + 2) + cnt (l.take 0) (n + 2) = (base l (n + 1) + cnt l (n + 1)) * 2 := by simp [base, cnt]
  rw [e]
  rcases h with ⟨h1, h2, h3, h4⟩ | ⟨h1, h2, h3⟩
  · exact .inl ⟨h1, h2, h3, by rw [h4]⟩
  · refine .inr ⟨h1, by omega, ?_⟩
    rw [← h3, show n + 2 - size = n + 1 - size + 1 by omega, Nat.pow_succ, Nat.mul_assoc]
end Go.Proofs.Ytmnipgmheapfbaa

