/- What is told of some bits is told of more that begin so, plain. -/
import Derived.Test.YtmnipgmheapfbaaHg
import Derived.Test.YtmnipgmheapfbaaHi
namespace Go.Proofs.Ytmnipgmheapfbaa
open Go.RowKit
set_option linter.unusedVariables false
set_option linter.unusedSimpArgs false

theorem look_mod (l : List Nat) (x k h : Nat) (hk : h ≤ k) : lookN l (x % 2 ^ k) h = lookN l x h := by
  unfold lookN
  rw [Nat.mod_mod_of_dvd _ (Nat.pow_dvd_pow 2 hk)]
theorem mod_step (x h n : Nat) (hn : n ≤ h) : x % 2 ^ (h + 1) % 2 ^ n = x % 2 ^ h % 2 ^ n := by
  rw [Nat.mod_mod_of_dvd _ (Nat.pow_dvd_pow 2 (by omega)), Nat.mod_mod_of_dvd _ (Nat.pow_dvd_pow 2 hn)]
/-- Told once, told for good. -/
theorem look_stays (l : List Nat) (hT : Tab l) (x h : Nat) (he : (lookN l x h).2.2 ≠ 6) : lookN l x (h + 1) = lookN l x h := by
  obtain ⟨hf, hw⟩ := hT
  unfold lookN at he ⊢
  cases e : findS l (x % 2 ^ h) with
  | none =>
    rw [e] at he
    have hno := findS_none e
    have : findS l (x % 2 ^ (h + 1)) = none := by
      cases e2 : findS l (x % 2 ^ (h + 1)) with
      | none => rfl
      | some s =>
        exfalso
        have hs := findS_some e2
        rcases hw with hw | hw
        · obtain ⟨t, ht⟩ := fits_whole hf hw (x % 2 ^ h)
          rw [hno t] at ht; cases ht
        · obtain ⟨n, h1, h2, h3⟩ := fits_get hs
          obtain ⟨h4, h5⟩ := hw s (by omega)
          have h6 := hno s
          unfold fits at hs h6
          rw [decide_eq_true_eq, h4, h5] at hs
          rw [decide_eq_false_iff_not, h4, h5] at h6
          apply h6
          refine ⟨by decide, ?_⟩
          cases h with
          | zero => simp [Nat.mod_one]
          | succ h => rw [← mod_step x (h + 1) 1 (by omega)]; exact hs.2
    rw [this]
  | some s =>
    rw [e] at he
    simp only at he ⊢
    have hs := findS_some e
    obtain ⟨n, h1, h2, h3⟩ := fits_get hs
    have hn : ¬ h < l.getD s 0 := fun hc => by rw [if_pos hc] at he; exact he rfl
    have hs2 : fits l (x % 2 ^ (h + 1)) s = true := by
      unfold fits at hs ⊢
      rw [decide_eq_true_eq] at hs ⊢
      rw [mod_step x h _ (by omega)]
      exact hs
    rw [findS_of hf hs2]
    simp only
    rw [if_neg hn, if_neg (by omega)]
theorem look_end (l : List Nat) (hf : Fine l) (x : Nat) : (lookN l x 15).2.2 ≠ 6 := by
  unfold lookN
  cases e : findS l (x % 2 ^ 15) with
  | none => simp
  | some s =>
    simp only
    obtain ⟨n, h1, h2, h3⟩ := fits_get (findS_some e)
    have := hf.at_ h1
    rw [if_neg (by omega)]
    simp
/-- A table's lengths, by their kind. -/
theorem tab_of {l : List Nat} (h5 : kindN l ≠ 5) (h4 : kindN l ≠ 4) (h3 : kindN l ≠ 3) : Tab l := by
  have hb := kind_le h5
  have hw := kind_wt h5 h4
  obtain ⟨hlen, hle⟩ := kind_ok hb
  refine ⟨⟨hle, hw⟩, ?_⟩
  have hk : kindN l = if allN l 15 = 0 then 0 else if 32768 < wt l 15 then 4 else if wt l 15 = 32768 then 2 else if allN l 15 = 1 ∧ cnt l 1 = 1 then 1 else 3 := by unfold kindN; rw [hb]; rfl
  have hall : ∀ (s n : Nat), l[s]? = some n → 0 < n → 1 ≤ allN l 15 := by
    intro s n hs hn
    have hmono : ∀ k d, allN l k ≤ allN l (k + d) := fun k d => by induction d with
      | zero => exact Nat.le_refl _
      | succ d ih => exact Nat.le_trans ih (by rw [← Nat.add_assoc]; simp only [allN]; omega)
    have h1 := cnt_lt hs
    have h2 := hmono n (15 - n)
    have hn15 := hle n (List.mem_of_getElem? hs)
    rw [show n + (15 - n) = 15 by omega] at h2
    obtain ⟨m, rfl⟩ : ∃ m, n = m + 1 := ⟨n - 1, by omega⟩
    have h3 : allN l (m + 1) = allN l m + cnt l (m + 1) := rfl
    omega
  by_cases ha : allN l 15 = 0
  · right
    intro s hs
    obtain ⟨n, h1, h2, h6⟩ := get_of_pos hs
    have := hall s n h1 h6
    omega
  · rw [if_neg ha] at hk
    by_cases h1 : 32768 < wt l 15
    · omega
    · rw [if_neg h1] at hk
      by_cases h2 : wt l 15 = 32768
      · exact .inl h2
      · rw [if_neg h2] at hk
        by_cases h6 : allN l 15 = 1 ∧ cnt l 1 = 1
        · right
          intro s hs
          obtain ⟨n, g1, g2, g3⟩ := get_of_pos hs
          have hn1 : n = 1 := by
            by_cases hn : n = 1
            · exact hn
            · exfalso
              have hmono : ∀ k d, allN l k ≤ allN l (k + d) := fun k d => by induction d with
                | zero => exact Nat.le_refl _
                | succ d ih => exact Nat.le_trans ih (by rw [← Nat.add_assoc]; simp only [allN]; omega)
              have c1 := cnt_lt g1
              have c2 := hmono n (15 - n)
              have hn15 := hle n (List.mem_of_getElem? g1)
              rw [show n + (15 - n) = 15 by omega] at c2
              obtain ⟨m, rfl⟩ : ∃ m, n = m + 2 := ⟨n - 2, by omega⟩
              have c3 := hmono 1 m
              rw [show 1 + m = m + 1 by omega] at c3
              have c4 : allN l (m + 2) = allN l (m + 1) + cnt l (m + 2) := rfl
              have c5 : allN l 1 = cnt l 1 := by simp [allN]
              have c6 := h6.1
              have c7 := h6.2
              omega
          subst hn1
          refine ⟨g2, ?_⟩
          have := wb_lt l s 1 g1
          have hc := cnt_lt g1
          have : cnt (l.take s) 1 = 0 := by have := h6.2; omega
          unfold wb codeN
          rw [g2, this]
          simp [base, turnN]
        · rw [if_neg h6] at hk
          omega
/-- The longest. -/
def mostN : List Nat → Nat
  | [] => 0
  | x :: l => max x (mostN l)
theorem mostN_ge (l : List Nat) : ∀ x ∈ l, x ≤ mostN l := by
  induction l with
  | nil => intro x hx; simp at hx
  | cons y l ih =>
    intro x hx
    simp only [mostN]
    rcases List.mem_cons.1 hx with rfl | hx
    · omega
    · have := ih x hx; omega
theorem mostN_append (a b : List Nat) : mostN (a ++ b) = max (mostN a) (mostN b) := by
  induction a with
  | nil => simp [mostN]
  | cons x a ih => simp only [List.cons_append, mostN, ih]; omega
theorem mostN_take (l : List Nat) (i x : Nat) (h : l[i]? = some x) : mostN (l.take (i + 1)) = max (mostN (l.take i)) x := by
  obtain ⟨hi, he⟩ := List.getElem?_eq_some_iff.1 h
  rw [List.take_succ_eq_append_getElem hi, mostN_append, he]
  simp [mostN]
theorem mostN_le (l : List Nat) (m : Nat) (h : ∀ x ∈ l, x ≤ m) : mostN l ≤ m := by
  induction l with
  | nil => simp [mostN]
  | cons y l ih =>
    have := ih (fun x hx => h x (by simp [hx]))
    have := h y (by simp)
    simp only [mostN]
    omega
end Go.Proofs.Ytmnipgmheapfbaa

