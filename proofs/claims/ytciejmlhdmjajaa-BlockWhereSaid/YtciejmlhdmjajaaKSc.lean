/- Merging in place, plain: what a rotation makes of two sorted ranges. -/
import Derived.Test.YtciejmlhdmjajaaKSb
namespace Go.Proofs.Ytciejmlhdmjajaa
set_option linter.unusedVariables false
set_option linter.unusedSimpArgs false

theorem rot_lo {α : Type} (F : Nat → α) (s m e k : Nat) (h : k < s) : rotF F s m e k = F k := by
  unfold rotF; rw [if_neg (by omega), if_neg (by omega)]
theorem rot_hi {α : Type} (F : Nat → α) (s m e k : Nat) (hs : s ≤ m) (hm : m ≤ e) (h : e ≤ k) : rotF F s m e k = F k := by
  unfold rotF; rw [if_neg (by omega), if_neg (by omega)]
theorem rot_1 {α : Type} (F : Nat → α) (s m e k : Nat) (h1 : s ≤ k) (h2 : k < s + (e - m)) : rotF F s m e k = F (k - s + m) := by
  unfold rotF; rw [if_pos ⟨h1, h2⟩]
theorem rot_2 {α : Type} (F : Nat → α) (s m e k : Nat) (h1 : s + (e - m) ≤ k) (h2 : k < e) : rotF F s m e k = F (k - (e - m)) := by
  unfold rotF; rw [if_neg (by omega), if_pos ⟨h1, h2⟩]
theorem rot_same {α : Type} (F : Nat → α) (s m e : Nat) (h : s = m ∨ e = m) (hs : s ≤ m) (hm : m ≤ e) (k : Nat) : rotF F s m e k = F k := by
  by_cases h1 : k < s
  · exact rot_lo F s m e k h1
  · by_cases h2 : e ≤ k
    · exact rot_hi F s m e k hs hm h2
    · by_cases h3 : k < s + (e - m)
      · rw [rot_1 F s m e k (by omega) h3]; congr 1; omega
      · rw [rot_2 F s m e k (by omega) (by omega)]; congr 1; omega
theorem rot_comp (F : Nat → Th) (σ : Nat → Nat) (s m e k : Nat) : rotF (fun k => F (σ k)) s m e k = F (rotF σ s m e k) := by
  unfold rotF
  repeat' split
  all_goals rfl
theorem rot_up {α : Type} (F : Nat → α) (a k j : Nat) (h : a ≤ k) : swapF (rotF F a (a + 1) (k + 1)) k (k + 1) j = rotF F a (a + 1) (k + 2) j := by
  unfold swapF rotF
  repeat' split
  all_goals first
    | rfl
    | (exfalso; omega)
    | (congr 1; omega)
theorem rot_down {α : Type} (F : Nat → α) (m k j : Nat) (h : k < m) : swapF (rotF F (k + 1) m (m + 1)) (k + 1) k j = rotF F k m (m + 1) j := by
  unfold swapF rotF
  repeat' split
  all_goals first
    | rfl
    | (exfalso; omega)
    | (congr 1; omega)
/-- What the ranges must be. -/
structure Two (W σ : Nat → Nat) (a m b : Nat) : Prop where
  l : SortedS W σ a m
  r : SortedS W σ m b
  t : ∀ i j, a ≤ i → i < m → m ≤ j → j < b → σ i < σ j
theorem SortedS.join {W σ : Nat → Nat} {a m b : Nat} (h : SortedS W σ a m) (k : SortedS W σ m b) (c : ∀ i j, a ≤ i → i < m → m ≤ j → j < b → ltS W (σ i) (σ j)) : SortedS W σ a b := by
  intro i j h1 h2 h3
  by_cases hj : j < m
  · exact h i j h1 h2 hj
  · by_cases hi : m ≤ i
    · exact k i j hi h2 h3
    · exact c i j h1 (by omega) (by omega) h3
theorem SortedS.congr {W σ τ : Nat → Nat} {a b : Nat} (h : SortedS W σ a b) (e : ∀ k, a ≤ k → k < b → τ k = σ k) : SortedS W τ a b := by
  intro i j h1 h2 h3
  rw [e i h1 (by omega), e j (by omega) h3]
  exact h i j h1 h2 h3
theorem SortedS.part {W σ : Nat → Nat} {a b c d : Nat} (h : SortedS W σ a b) (h1 : a ≤ c) (h2 : d ≤ b) : SortedS W σ c d := fun i j k1 k2 k3 => h i j (by omega) k2 (by omega)
theorem le_of_lt_s {W : Nat → Nat} {x y : Nat} (h : ltS W x y) : W x ≤ W y := by
  unfold ltS at h; omega
theorem SortedS.le {W σ : Nat → Nat} {a b : Nat} (h : SortedS W σ a b) {i j : Nat} (h1 : a ≤ i) (h2 : i ≤ j) (h3 : j < b) : W (σ i) ≤ W (σ j) := by
  by_cases he : i = j
  · rw [he]; exact Nat.le_refl _
  · exact le_of_lt_s (h i j h1 (by omega) h3)
structure Cut (W σ ρ : Nat → Nat) (a s d e b : Nat) : Prop where
  sh : Shuf a b σ ρ
  s1 : SortedS W ρ a s
  s2 : SortedS W ρ s d
  s3 : SortedS W ρ d e
  s4 : SortedS W ρ e b
  t1 : ∀ i j, a ≤ i → i < s → s ≤ j → j < d → ρ i < ρ j
  t2 : ∀ i j, d ≤ i → i < e → e ≤ j → j < b → ρ i < ρ j
  x : ∀ i j, a ≤ i → i < d → d ≤ j → j < b → ltS W (ρ i) (ρ j)
theorem Two.cut {W σ : Nat → Nat} {a m b : Nat} (h : Two W σ a m b) (s d e : Nat) (has : a ≤ s) (hsm : s ≤ m) (hme : m ≤ e) (heb : e ≤ b) (hd : d = s + (e - m))
    (h1 : ∀ x y, a ≤ x → x < s → e ≤ y → y < b → W (σ x) ≤ W (σ y)) (h2 : ∀ x y, m ≤ x → x < e → s ≤ y → y < m → W (σ x) < W (σ y)) : Cut W σ (rotF σ s m e) a s d e b := by
  have p1 : ∀ k, k < s → rotF σ s m e k = σ k := fun k hk => rot_lo σ s m e k hk
  have p2 : ∀ k, s ≤ k → k < d → rotF σ s m e k = σ (k - s + m) := fun k hk hk2 => rot_1 σ s m e k hk (by omega)
  have p3 : ∀ k, d ≤ k → k < e → rotF σ s m e k = σ (k - (e - m)) := fun k hk hk2 => rot_2 σ s m e k (by omega) hk2
  have p4 : ∀ k, e ≤ k → rotF σ s m e k = σ k := fun k hk => rot_hi σ s m e k hsm hme hk
  refine ⟨⟨fun k hk => ?_, fun k k1 k2 => ?_, fun k k1 k2 => ?_⟩, ?_, ?_, ?_, ?_, ?_, ?_, ?_⟩
  · by_cases c : k < s
    · exact p1 k c
    · exact p4 k (by omega)
  · by_cases c1 : k < s
    · exact ⟨k, k1, k2, p1 k c1⟩
    · by_cases c2 : k < d
      · exact ⟨_, by omega, by omega, p2 k (by omega) c2⟩
      · by_cases c3 : k < e
        · exact ⟨_, by omega, by omega, p3 k (by omega) c3⟩
        · exact ⟨k, k1, k2, p4 k (by omega)⟩
  · by_cases c1 : k < s
    · exact ⟨k, k1, k2, (p1 k c1).symm⟩
    · by_cases c2 : k < m
      · refine ⟨k + (e - m), by omega, by omega, ?_⟩
        rw [p3 _ (by omega) (by omega)]
        congr 1; omega
      · by_cases c3 : k < e
        · refine ⟨k - m + s, by omega, by omega, ?_⟩
          rw [p2 _ (by omega) (by omega)]
          congr 1; omega
        · exact ⟨k, k1, k2, (p4 k (by omega)).symm⟩
  · exact (h.l.part (Nat.le_refl _) hsm).congr fun k _ k2 => p1 k k2
  · intro i j i1 i2 i3
    rw [p2 i i1 (by omega), p2 j (by omega) i3]
    exact h.r _ _ (by omega) (by omega) (by omega)
  · intro i j i1 i2 i3
    rw [p3 i i1 (by omega), p3 j (by omega) i3]
    exact h.l _ _ (by omega) (by omega) (by omega)
  · exact (h.r.part hme (Nat.le_refl _)).congr fun k k1 _ => p4 k k1
  · intro i j i1 i2 i3 i4
    rw [p1 i i2, p2 j i3 i4]
    exact h.t _ _ (by omega) (by omega) (by omega) (by omega)
  · intro i j i1 i2 i3 i4
    rw [p3 i i1 i2, p4 j i3]
    exact h.t _ _ (by omega) (by omega) (by omega) (by omega)
  · intro i j i1 i2 i3 i4
    by_cases c1 : i < s
    · rw [p1 i c1]
      by_cases c2 : j < e
      · rw [p3 j i3 c2]
        exact h.l _ _ (by omega) (by omega) (by omega)
      · rw [p4 j (by omega)]
        have := h1 i j i1 c1 (by omega) i4
        have := h.t i j i1 (by omega) (by omega) i4
        unfold ltS
        omega
    · rw [p2 i (by omega) i2]
      by_cases c2 : j < e
      · rw [p3 j i3 c2]
        exact .inl (h2 _ _ (by omega) (by omega) (by omega) (by omega))
      · rw [p4 j (by omega)]
        exact h.r _ _ (by omega) (by omega) (by omega)
/-- Both halves are merged. -/
theorem Cut.merged {W σ ρ α τ : Nat → Nat} {a s d e b : Nat} (h : Cut W σ ρ a s d e b) (had : a ≤ d) (hdb : d ≤ b) (k1 : Shuf a d ρ α) (k2 : Shuf d b α τ) (l1 : SortedS W α a d) (l2 : SortedS W τ d b) : Shuf a b σ τ ∧ SortedS W τ a b := by
  refine ⟨(h.sh.trans (k1.mono (Nat.le_refl _) hdb)).trans (k2.mono had (Nat.le_refl _)), (l1.congr fun k _ hk => k2.1 k (by omega)).join l2 fun i j i1 i2 i3 i4 => ?_⟩
  rw [k2.1 i (by omega)]
  obtain ⟨p, p1, p2, p3⟩ := k1.2.1 i i1 i2
  obtain ⟨q, q1, q2, q3⟩ := k2.2.1 j i3 i4
  rw [p3, q3, k1.1 q (by omega)]
  exact h.x _ _ p1 p2 q1 q2
/-- One thing on the left. -/
theorem Two.one_left {W σ : Nat → Nat} {a m b : Nat} (h : Two W σ a m b) (i : Nat) (hm : m = a + 1) (h1 : m ≤ i) (h2 : i ≤ b) (p : ∀ k, m ≤ k → k < i → W (σ k) < W (σ a)) (q : ∀ k, i ≤ k → k < b → W (σ a) ≤ W (σ k)) : Shuf a b σ (rotF σ a m i) ∧ SortedS W (rotF σ a m i) a b := by
  have hc := h.cut a (i - 1) i (Nat.le_refl _) (by omega) h1 h2 (by omega) (fun x y _ _ _ _ => by omega) (fun x y x1 x2 y1 y2 => by rw [show y = a by omega]; exact p x x1 x2)
  refine hc.merged (by omega) (by omega) (Shuf.refl _ _ _) (Shuf.refl _ _ _) hc.s2 ?_
  refine hc.s3.join hc.s4 fun x y x1 x2 y1 y2 => ?_
  have e1 : rotF σ a m i x = σ a := by rw [rot_2 σ a m i x (by omega) x2]; congr 1; omega
  have e2 : rotF σ a m i y = σ y := rot_hi σ a m i y (by omega) h1 y1
  have e3 := hc.t2 x y x1 x2 y1 y2
  rw [e1, e2] at e3 ⊢
  have := q y y1 y2
  unfold ltS
  omega
/-- One thing on the right. -/
theorem Two.one_right {W σ : Nat → Nat} {a m b : Nat} (h : Two W σ a m b) (i : Nat) (hm : b = m + 1) (h1 : a ≤ i) (h2 : i ≤ m) (p : ∀ k, a ≤ k → k < i → W (σ k) ≤ W (σ m)) (q : ∀ k, i ≤ k → k < m → W (σ m) < W (σ k)) : Shuf a b σ (rotF σ i m b) ∧ SortedS W (rotF σ i m b) a b := by
  have hc := h.cut i (i + 1) b h1 h2 (by omega) (Nat.le_refl _) (by omega) (fun x y _ _ _ _ => by omega) (fun x y x1 x2 y1 y2 => by rw [show x = m by omega]; exact q y y1 y2)
  refine hc.merged (by omega) (by omega) (Shuf.refl _ _ _) (Shuf.refl _ _ _) ?_ hc.s3
  refine hc.s1.join hc.s2 fun x y x1 x2 y1 y2 => ?_
  have e1 : rotF σ i m b x = σ x := rot_lo σ i m b x x2
  have e2 : rotF σ i m b y = σ m := by rw [rot_1 σ i m b y y1 (by omega)]; congr 1; omega
  have e3 := hc.t1 x y x1 x2 y1 y2
  rw [e1, e2] at e3 ⊢
  have := p x x1 x2
  unfold ltS
  omega
/-- The search's answer makes a cut. -/
theorem Two.sym {W σ : Nat → Nat} {a m b : Nat} (h : Two W σ a m b) (ham : a < m) (hmb : m < b) (s0 r0 s d : Nat) (hd : d = (a + b) / 2) (h0 : d < m ∧ s0 = d + m - b ∧ r0 = d ∨ m ≤ d ∧ s0 = a ∧ r0 = m) (hs0 : s0 ≤ s) (hs1 : s ≤ r0)
    (p : ∀ c, s0 ≤ c → c < s → W (σ c) ≤ W (σ (d + m - 1 - c))) (q : ∀ c, s ≤ c → c < r0 → W (σ (d + m - 1 - c)) < W (σ c)) : a ≤ s ∧ s ≤ m ∧ m ≤ d + m - s ∧ d + m - s ≤ b ∧ s ≤ d ∧ d ≤ d + m - s ∧ Cut W σ (rotF σ s m (d + m - s)) a s d (d + m - s) b := by
  refine ⟨by omega, by omega, by omega, by omega, by omega, by omega, h.cut s d (d + m - s) (by omega) (by omega) (by omega) (by omega) (by omega) (fun x y x1 x2 y1 y2 => ?_) (fun x y x1 x2 y1 y2 => ?_)⟩
  · have hss : s0 < s := by omega
    have := p (s - 1) (by omega) (by omega)
    have h1 := h.l.le x1 (show x ≤ s - 1 by omega) (by omega)
    have h2 := h.r.le (show m ≤ d + m - 1 - (s - 1) by omega) (show d + m - 1 - (s - 1) ≤ y by omega) y2
    omega
  · have hss : s < r0 := by omega
    have := q s (by omega) hss
    have h1 := h.r.le x1 (show x ≤ d + m - 1 - s by omega) (by omega)
    have h2 := h.l.le (show a ≤ s by omega) y1 y2
    omega
end Go.Proofs.Ytciejmlhdmjajaa

