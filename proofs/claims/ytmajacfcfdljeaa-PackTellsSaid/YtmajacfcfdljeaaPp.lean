/- The least weight of whole lengths, by trying all of them: what platenref06's Best finds is what package-merge finds. -/
import Derived.Test.YtmajacfcfdljeaaPn
namespace Go.Proofs.Ytmajacfcfdljeaa
open Go.RowKit
set_option linter.unusedVariables false
set_option linter.unusedSimpArgs false

/-- The less of two, where there are any. -/
def minO (a : Option Nat) : Option Nat → Option Nat
  | none => a
  | some x => match a with
    | none => some x
    | some y => if x < y then some x else some y
/-- The least of the first j ways. -/
def minTo (g : Nat → Option Nat) : Nat → Option Nat
  | 0 => none
  | j + 1 => minO (minTo g j) (g j)
theorem minTo_some (g : Nat → Option Nat) : ∀ j x, minTo g j = some x → ∃ i, i < j ∧ g i = some x
  | 0, x, h => by simp [minTo] at h
  | j + 1, x, h => by
    rw [minTo] at h
    cases hg : g j with
    | none =>
      rw [hg] at h
      obtain ⟨i, h1, h2⟩ := minTo_some g j x h
      exact ⟨i, by omega, h2⟩
    | some y =>
      rw [hg] at h
      cases hm : minTo g j with
      | none => rw [hm] at h; simp [minO] at h; subst h; exact ⟨j, by omega, hg⟩
      | some z =>
        rw [hm] at h
        simp only [minO] at h
        split at h
        · simp at h; subst h; exact ⟨j, by omega, hg⟩
        · simp at h; subst h
          obtain ⟨i, h1, h2⟩ := minTo_some g j z hm
          exact ⟨i, by omega, h2⟩
theorem minTo_le (g : Nat → Option Nat) : ∀ j i x, i < j → g i = some x → ∃ y, minTo g j = some y ∧ y ≤ x
  | 0, i, x, h, _ => by omega
  | j + 1, i, x, h, hx => by
    rw [minTo]
    by_cases hij : i = j
    · subst hij
      rw [hx]
      cases hm : minTo g i with
      | none => exact ⟨x, rfl, Nat.le_refl _⟩
      | some z =>
        simp only [minO]
        by_cases hxz : x < z
        · rw [if_pos hxz]; exact ⟨x, rfl, Nat.le_refl _⟩
        · rw [if_neg hxz]; exact ⟨z, rfl, by omega⟩
    · obtain ⟨y, h1, h2⟩ := minTo_le g j i x (by omega) hx
      rw [h1]
      cases hg : g j with
      | none => exact ⟨y, rfl, h2⟩
      | some u =>
        simp only [minO]
        by_cases hu : u < y
        · rw [if_pos hu]; exact ⟨u, rfl, by omega⟩
        · rw [if_neg hu]; exact ⟨y, rfl, h2⟩
/-- The least weight of whole lengths from size on, of so many codes; f lengths are left. -/
def bestO : Nat → List Nat → Nat → Nat → Option Nat
  | 0, l, _, codes => if l.length = 0 ∧ codes = 0 then some 0 else none
  | f + 1, l, size, codes => if l.length = 0 ∧ codes = 0 then some 0 else if l.length < codes ∨ codes = 0 then none else
    minTo (fun j => (bestO f (l.drop j) (size + 1) (2 * (codes - j))).map (· + size * (l.take j).sum)) (codes + 1)
/-- What lengths weigh. -/
def dotN : List Nat → List Nat → Nat
  | a :: l, b :: m => a * b + dotN l m
  | _, _ => 0
theorem dotN_append : ∀ (a b c d : List Nat), a.length = c.length → dotN (a ++ b) (c ++ d) = dotN a c + dotN b d
  | [], b, [], d, _ => by simp [dotN]
  | [], b, x :: c, d, h => by simp at h
  | x :: a, b, [], d, h => by simp at h
  | x :: a, b, y :: c, d, h => by
    have := dotN_append a b c d (by simpa using h)
    simp only [List.cons_append, dotN, this]; omega
theorem dotN_same (s : Nat) : ∀ (l d : List Nat), d.length = l.length → (∀ x ∈ d, x = s) → dotN d l = s * l.sum
  | [], [], _, _ => by simp [dotN]
  | [], x :: d, h, _ => by simp at h
  | y :: l, [], h, _ => by simp at h
  | y :: l, x :: d, h, hs => by
    rw [dotN, dotN_same s l d (by simpa using h) (fun z hz => hs z (by simp [hz])), hs x (by simp), List.sum_cons, Nat.mul_add]
/-- What Best finds are whole lengths. -/
theorem best_is (limit : Nat) : ∀ (f : Nat) (l : List Nat) (size codes x : Nat), size + f = limit + 1 → bestO f l size codes = some x →
    ∃ d : List Nat, d.length = l.length ∧ (∀ y ∈ d, size ≤ y ∧ y ≤ limit) ∧ tot (fun y => 2 ^ (limit + 1 - y)) d = codes * 2 ^ (limit + 1 - size) ∧ x = dotN d l
  | 0, l, size, codes, x, hf, h => by
    rw [bestO] at h
    split at h
    · rename_i hc
      simp at h
      subst h
      have : l = [] := List.eq_nil_of_length_eq_zero hc.1
      subst this
      exact ⟨[], rfl, fun y hy => by simp at hy, by rw [hc.2]; simp [tot], rfl⟩
    · simp at h
  | f + 1, l, size, codes, x, hf, h => by
    rw [bestO] at h
    split at h
    · rename_i hc
      simp at h
      subst h
      have : l = [] := List.eq_nil_of_length_eq_zero hc.1
      subst this
      exact ⟨[], rfl, fun y hy => by simp at hy, by rw [hc.2]; simp [tot], rfl⟩
    · split at h
      · simp at h
      · rename_i hc2
        obtain ⟨j, hj, hg⟩ := minTo_some _ _ _ h
        rw [Option.map_eq_some_iff] at hg
        obtain ⟨x', hb, rfl⟩ := hg
        obtain ⟨d, d1, d2, d3, d4⟩ := best_is limit f (l.drop j) (size + 1) (2 * (codes - j)) x' (by omega) hb
        have hjl : j ≤ l.length := by omega
        rw [List.length_drop] at d1
        refine ⟨List.replicate j size ++ d, by rw [List.length_append, List.length_replicate, d1]; omega, ?_, ?_, ?_⟩
        · intro y hy
          rcases List.mem_append.1 hy with hy | hy
          · have := List.eq_of_mem_replicate hy; omega
          · have := d2 y hy; omega
        · rw [tot_append, d3]
          have e1 : tot (fun y => 2 ^ (limit + 1 - y)) (List.replicate j size) = j * 2 ^ (limit + 1 - size) := by
            rw [tot_congr _ (fun _ => 2 ^ (limit + 1 - size)) _ (fun y hy => by rw [List.eq_of_mem_replicate hy]), tot_const, List.length_replicate]
          have e2 : 2 * (codes - j) * 2 ^ (limit + 1 - (size + 1)) = (codes - j) * 2 ^ (limit + 1 - size) := by
            rw [show limit + 1 - size = limit + 1 - (size + 1) + 1 by omega, Nat.pow_succ, Nat.mul_comm 2, Nat.mul_assoc, Nat.mul_comm 2]
          rw [e1, e2, ← Nat.add_mul]
          congr 1; omega
        · conv => rhs; rw [← List.take_append_drop j l]
          rw [dotN_append _ _ _ _ (by rw [List.length_replicate, List.length_take]; omega), ← d4, dotN_same size _ _ (by rw [List.length_replicate, List.length_take]; omega) (fun y hy => List.eq_of_mem_replicate hy)]
          omega
/-- Best finds none that weighs more than lengths that do not fall. -/
theorem best_least (limit : Nat) : ∀ (f : Nat) (l d : List Nat) (size codes : Nat), size + f = limit + 1 → d.length = l.length → d.Pairwise (· ≤ ·) → (∀ y ∈ d, size ≤ y ∧ y ≤ limit) → tot (fun y => 2 ^ (limit + 1 - y)) d = codes * 2 ^ (limit + 1 - size) →
    ∃ x, bestO f l size codes = some x ∧ x ≤ dotN d l
  | f, [], d, size, codes, hf, hd, hp, hb, hk => by
    have : d = [] := List.eq_nil_of_length_eq_zero hd
    subst this
    simp only [tot] at hk
    have hc : codes = 0 := by
      rcases Nat.eq_zero_or_pos codes with h | h
      · exact h
      · have := Nat.mul_pos h (Nat.two_pow_pos (limit + 1 - size)); omega
    subst hc
    cases f <;> exact ⟨0, by simp [bestO], by simp⟩
  | 0, c :: l, d, size, codes, hf, hd, hp, hb, hk => by
    cases d with
    | nil => simp at hd
    | cons y d => have := hb y (by simp); omega
  | f + 1, c :: l, d, size, codes, hf, hd, hp, hb, hk => by
    have hpos : 0 < 2 ^ (limit + 1 - size) := Nat.two_pow_pos _
    have hle : codes ≤ (c :: l).length := by
      have : tot (fun y => 2 ^ (limit + 1 - y)) d ≤ d.length * 2 ^ (limit + 1 - size) := by
        rw [← tot_const]
        exact tot_le _ _ _ fun y hy => Nat.pow_le_pow_right (by decide) (by have := hb y hy; omega)
      rw [hk, hd] at this
      exact Nat.le_of_mul_le_mul_right this hpos
    have hc0 : codes ≠ 0 := by
      intro h
      rw [h] at hk
      cases d with
      | nil => simp at hd
      | cons y d => simp only [tot] at hk; have := Nat.two_pow_pos (limit + 1 - y); omega
    -- those of this size are ahead
    obtain ⟨j, hj, h1, h2⟩ : ∃ j, j ≤ d.length ∧ (∀ y ∈ d.take j, y = size) ∧ ∀ y ∈ d.drop j, size + 1 ≤ y := by
      have : ∀ d : List Nat, d.Pairwise (· ≤ ·) → (∀ y ∈ d, size ≤ y) → ∃ j, j ≤ d.length ∧ (∀ y ∈ d.take j, y = size) ∧ ∀ y ∈ d.drop j, size + 1 ≤ y := by
        intro d
        induction d with
        | nil => intro _ _; exact ⟨0, Nat.le_refl _, fun y hy => by simp at hy, fun y hy => by simp at hy⟩
        | cons z d ih =>
          intro hp hs
          have hp2 := List.pairwise_cons.1 hp
          by_cases hz : z = size
          · obtain ⟨j, j1, j2, j3⟩ := ih hp2.2 (fun y hy => hs y (by simp [hy]))
            refine ⟨j + 1, by simp; omega, fun y hy => ?_, fun y hy => j3 y (by simpa using hy)⟩
            rw [List.take_succ_cons] at hy
            rcases List.mem_cons.1 hy with rfl | hy
            · exact hz
            · exact j2 y hy
          · refine ⟨0, Nat.zero_le _, fun y hy => by simp at hy, fun y hy => ?_⟩
            have hzs := hs z (by simp)
            rw [List.drop_zero] at hy
            rcases List.mem_cons.1 hy with rfl | hy
            · omega
            · have := hp2.1 y hy; omega
      exact this d hp fun y hy => (hb y hy).1
    have e1 : tot (fun y => 2 ^ (limit + 1 - y)) (d.take j) = j * 2 ^ (limit + 1 - size) := by
      rw [tot_congr _ (fun _ => 2 ^ (limit + 1 - size)) _ (fun y hy => by rw [h1 y hy]), tot_const, List.length_take, Nat.min_eq_left hj]
    have hk2 : tot (fun y => 2 ^ (limit + 1 - y)) (d.take j) + tot (fun y => 2 ^ (limit + 1 - y)) (d.drop j) = codes * 2 ^ (limit + 1 - size) := by
      rw [← tot_append, List.take_append_drop, hk]
    have hjc : j ≤ codes := by
      refine Nat.le_of_mul_le_mul_right ?_ hpos
      omega
    have e3 : tot (fun y => 2 ^ (limit + 1 - y)) (d.drop j) = 2 * (codes - j) * 2 ^ (limit + 1 - (size + 1)) := by
      have : 2 * (codes - j) * 2 ^ (limit + 1 - (size + 1)) = (codes - j) * 2 ^ (limit + 1 - size) := by
        rw [show limit + 1 - size = limit + 1 - (size + 1) + 1 by omega, Nat.pow_succ, Nat.mul_comm 2, Nat.mul_assoc, Nat.mul_comm 2]
      rw [this]
      have : codes * 2 ^ (limit + 1 - size) = j * 2 ^ (limit + 1 - size) + (codes - j) * 2 ^ (limit + 1 - size) := by rw [← Nat.add_mul]; congr 1; omega
      omega
    obtain ⟨x, b1, b2⟩ := best_least limit f ((c :: l).drop j) (d.drop j) (size + 1) (2 * (codes - j)) (by omega) (by rw [List.length_drop, List.length_drop, hd]) (hp.sublist (List.drop_sublist _ _)) (fun y hy => ⟨h2 y hy, (hb y (List.mem_of_mem_drop hy)).2⟩) e3
    obtain ⟨y, y1, y2⟩ := minTo_le (fun j => (bestO f ((c :: l).drop j) (size + 1) (2 * (codes - j))).map (· + size * ((c :: l).take j).sum)) (codes + 1) j (x + size * ((c :: l).take j).sum) (by omega) (by simp only [b1]; rfl)
    refine ⟨y, ?_, ?_⟩
    · rw [bestO, if_neg (by simp), if_neg (by omega)]
      exact y1
    · refine Nat.le_trans y2 ?_
      have : dotN d (c :: l) = dotN (d.take j) ((c :: l).take j) + dotN (d.drop j) ((c :: l).drop j) := by
        rw [← dotN_append _ _ _ _ (by rw [List.length_take, List.length_take, hd]), List.take_append_drop, List.take_append_drop]
      rw [this, dotN_same size _ _ (by rw [List.length_take, List.length_take, hd]) h1]
      omega
end Go.Proofs.Ytmajacfcfdljeaa
