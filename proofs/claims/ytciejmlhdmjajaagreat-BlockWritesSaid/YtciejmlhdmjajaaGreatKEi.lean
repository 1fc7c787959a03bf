/- What is written of bits, piece by piece; the symbols of tokens: plain. -/
import Derived.Test.YtciejmlhdmjajaaGreatKEd
namespace Go.Proofs.YtciejmlhdmjajaaGreat
set_option linter.unusedVariables false
set_option linter.unusedSimpArgs false

/-- Bits (a number, and how many) with so many more behind them. -/
def putP (s p : Nat × Nat) : Nat × Nat := (s.1 + p.1 * 2 ^ s.2, s.2 + p.2)
def puts (s : Nat × Nat) (l : List (Nat × Nat)) : Nat × Nat := l.foldl putP s
def bitsP : List (Nat × Nat) → Nat
  | [] => 0
  | p :: l => p.2 + bitsP l
theorem bitsP_append (a b : List (Nat × Nat)) : bitsP (a ++ b) = bitsP a + bitsP b := by
  induction a with
  | nil => simp [bitsP]
  | cons x a ih => simp only [List.cons_append, bitsP, ih]; omega
theorem puts_append (s : Nat × Nat) (a b : List (Nat × Nat)) : puts s (a ++ b) = puts (puts s a) b := List.foldl_append
theorem puts_one (s p : Nat × Nat) : puts s [p] = putP s p := rfl
theorem puts_nil (s : Nat × Nat) : puts s [] = s := rfl
theorem puts_cons (s p : Nat × Nat) (l : List (Nat × Nat)) : puts s (p :: l) = puts (putP s p) l := rfl
theorem puts_len (s : Nat × Nat) (l : List (Nat × Nat)) : (puts s l).2 = s.2 + bitsP l := by
  induction l generalizing s with
  | nil => rfl
  | cons x l ih => rw [puts_cons, ih]; simp only [putP, bitsP]; omega
theorem puts_num (s : Nat × Nat) (l : List (Nat × Nat)) : (puts s l).1 = s.1 + (puts (0, 0) l).1 * 2 ^ s.2 := by
  induction l generalizing s with
  | nil => simp [puts]
  | cons x l ih =>
    rw [puts_cons, puts_cons, ih (putP s x), ih (putP (0, 0) x)]
    simp only [putP, Nat.pow_zero, Nat.mul_one, Nat.zero_add, Nat.add_mul, Nat.pow_add]
    rw [Nat.add_assoc, Nat.mul_comm (2 ^ s.2) (2 ^ x.2), Nat.mul_assoc]
/-- Pieces that are as great as they say. -/
def PutsOk (l : List (Nat × Nat)) : Prop := ∀ p ∈ l, p.1 < 2 ^ p.2
theorem puts_lt {s : Nat × Nat} {l : List (Nat × Nat)} (hs : s.1 < 2 ^ s.2) (h : PutsOk l) : (puts s l).1 < 2 ^ (puts s l).2 := by
  induction l generalizing s with
  | nil => exact hs
  | cons x l ih =>
    rw [puts_cons]
    refine ih ?_ fun p hp => h p (by simp [hp])
    have hx := h x (by simp)
    simp only [putP, Nat.pow_add]
    calc s.1 + x.1 * 2 ^ s.2 < 2 ^ s.2 + x.1 * 2 ^ s.2 := by omega
      _ = (x.1 + 1) * 2 ^ s.2 := by rw [Nat.add_mul]; omega
      _ ≤ 2 ^ x.2 * 2 ^ s.2 := Nat.mul_le_mul_right _ hx
      _ = 2 ^ s.2 * 2 ^ x.2 := Nat.mul_comm _ _

/-- How many of the first N do not come up to n, as a number. -/
def uptoN (f : Nat → Nat) (N n : Nat) : Nat := ((List.range N).filter fun i => decide (f i ≤ n)).length
theorem upto_eq {f : Nat → Nat} {n r : Nat} : ∀ {N : Nat}, Upto f N n r → uptoN f N n = r
  | 0, h => by have := h.1; simp [uptoN]; omega
  | N + 1, h => by
    obtain ⟨h1, h2, h3⟩ := h
    unfold uptoN
    rw [List.range_succ, List.filter_append, List.length_append]
    by_cases hr : r ≤ N
    · have e := upto_eq (N := N) (f := f) (n := n) (r := r) ⟨hr, h2, fun i h4 h5 => h3 i h4 (by omega)⟩
      unfold uptoN at e
      have h6 := h3 N hr (by omega)
      rw [e, List.filter_cons, if_neg (by simp; omega)]
      simp
    · have hr2 : r = N + 1 := by omega
      have e := upto_eq (N := N) (f := f) (n := n) (r := N) ⟨Nat.le_refl _, fun i hi => h2 i (by omega), fun i h4 h5 => by omega⟩
      unfold uptoN at e
      rw [e, List.filter_cons, if_pos (by simp; exact h2 N (by omega))]
      simp
      omega
/-- A symbol that is written: of distances, or not; which; bits besides. -/
structure Sy where
  dist : Bool
  n : Nat
  extra : Nat
  bits : Nat
deriving DecidableEq
def lenSym (n : Nat) : Nat := 256 + uptoN lengthF 29 n
def distSym (n : Nat) : Nat := uptoN distF 30 n - 1
def Tok.syms (t : Tok) : List Sy :=
  if t.len = 0 then [⟨false, t.lit, 0, 0⟩]
  else [⟨false, lenSym t.len.toNat, t.len.toNat - leastN (lenSym t.len.toNat), lbN (lenSym t.len.toNat)⟩, ⟨true, distSym t.dist.toNat, t.dist.toNat - nearN (distSym t.dist.toNat), dbN (distSym t.dist.toNat)⟩]
def endSy : Sy := ⟨false, 256, 0, 0⟩
def symsL (l : List Tok) : List Sy := l.flatMap Tok.syms ++ [endSy]
def Sy.ok (s : Sy) : Prop := (if s.dist then s.n < 30 else s.n < 286) ∧ s.extra < 2 ^ s.bits ∧ s.bits ≤ 13
theorem len_all : ∀ n : Nat, n < 259 → 3 ≤ n → 257 ≤ lenSym n ∧ lenSym n < 286 ∧ leastN (lenSym n) ≤ n ∧ n - leastN (lenSym n) < 2 ^ lbN (lenSym n) := by decide +kernel
theorem near_next : ∀ i : Nat, i < 29 → nearN (i + 1) = nearN i + 2 ^ dbN i := by decide +kernel
theorem dist_upto (n : Nat) (h1 : 1 ≤ n) (h2 : n ≤ 32768) : ∃ r, r ≤ 29 ∧ Upto distF 30 n (r + 1) := by
  have key : ∀ N, N ≤ 30 → 1 ≤ N → ∃ r, r + 1 ≤ N ∧ Upto distF N n (r + 1) := by
    intro N hN h1N
    induction N with
    | zero => omega
    | succ N ih =>
      by_cases hN0 : N = 0
      · subst hN0
        refine ⟨0, by omega, by omega, fun i hi => ?_, fun i h3 h4 => by omega⟩
        have : i = 0 := by omega
        subst this
        show nearN 0 ≤ n
        have : nearN 0 = 1 := by decide
        omega
      · obtain ⟨r, hr, h3, h4, h5⟩ := ih (by omega) (by omega)
        by_cases hx : r + 1 = N ∧ distF N ≤ n
        · refine ⟨N, by omega, by omega, fun i hi => ?_, fun i h6 h7 => by omega⟩
          by_cases hiN : i = N
          · rw [hiN]; exact hx.2
          · exact h4 i (by omega)
        · refine ⟨r, by omega, by omega, h4, fun i h6 h7 => ?_⟩
          by_cases hiN : i = N
          · subst hiN
            by_cases hr2 : r + 1 = i
            · omega
            · have h8 := h5 (r + 1) (by omega) (by omega)
              have h9 := near_up (r + 1) (by omega) i (by omega) (by omega)
              unfold distF at *
              omega
          · exact h5 i h6 (by omega)
  obtain ⟨r, hr, hu⟩ := key 30 (by omega) (by omega)
  exact ⟨r, by omega, hu⟩
theorem dist_all (n : Nat) (h1 : 1 ≤ n) (h2 : n ≤ 32768) : distSym n < 30 ∧ nearN (distSym n) ≤ n ∧ n - nearN (distSym n) < 2 ^ dbN (distSym n) := by
  obtain ⟨r, hr, hu⟩ := dist_upto n h1 h2
  have e : distSym n = r := by unfold distSym; rw [upto_eq hu]; omega
  rw [e]
  have h3 := hu.2.1 r (by omega)
  unfold distF at h3
  refine ⟨by omega, h3, ?_⟩
  by_cases h29 : r = 29
  · subst h29
    have h4 : nearN 29 = 24577 := by decide
    have h5 : dbN 29 = 13 := by decide
    rw [h4, h5]
    omega
  · have h4 := hu.2.2 (r + 1) (by omega) (by omega)
    unfold distF at h4
    rw [near_next r (by omega)] at h4
    omega
theorem Tok.may_cases {t : Tok} (h : t.may = true) : (t.len = 0 ∧ t.dist = 0) ∨ (t.len ≠ 0 ∧ 3 ≤ t.len ∧ t.len ≤ 258 ∧ 1 ≤ t.dist ∧ t.dist ≤ 32768 ∧ t.lit = 0) := by
  unfold Tok.may at h
  split at h
  · exact .inl ⟨by assumption, by simpa using h⟩
  · simp at h
    exact .inr ⟨by assumption, by omega, by omega, by omega, by omega, by omega⟩
theorem syms_ok {t : Tok} (h : t.may = true) (hl : t.lit < 256) : ∀ s ∈ t.syms, s.ok := by
  intro s hs
  unfold Tok.syms at hs
  rcases Tok.may_cases h with ⟨h0, _⟩ | ⟨h0, h1, h2, h3, h4, _⟩
  · rw [if_pos h0] at hs
    simp at hs
    subst hs
    exact ⟨by show t.lit < 286; omega, by show 0 < 2 ^ 0; omega, by show 0 ≤ 13; omega⟩
  · rw [if_neg h0] at hs
    obtain ⟨n, hn⟩ : ∃ n : Nat, t.len.toNat = n := ⟨_, rfl⟩
    obtain ⟨d, hd⟩ : ∃ d : Nat, t.dist.toNat = d := ⟨_, rfl⟩
    rw [hn, hd] at hs
    have a := len_all n (by omega) (by omega)
    have b := dist_all d (by omega) (by omega)
    simp only [List.mem_cons, List.not_mem_nil, or_false] at hs
    rcases hs with rfl | rfl
    · exact ⟨a.2.1, a.2.2.2, by have := lb_le (lenSym n) (by omega); show lbN _ ≤ 13; omega⟩
    · exact ⟨b.1, b.2.2, by have := db_le (distSym d) (by omega); show dbN _ ≤ 13; omega⟩
theorem symsL_ok {l : List Tok} (h : ∀ t ∈ l, t.may = true) (hl : ∀ t ∈ l, t.lit < 256) : ∀ s ∈ symsL l, s.ok := by
  intro s hs
  unfold symsL at hs
  rcases List.mem_append.1 hs with h1 | h1
  · obtain ⟨t, ht, hst⟩ := List.mem_flatMap.1 h1
    exact syms_ok (h t ht) (hl t ht) s hst
  · simp at h1
    subst h1
    exact ⟨by show 256 < 286; omega, by show 0 < 2 ^ 0; omega, by show 0 ≤ 13; omega⟩
theorem symsL_len (l : List Tok) : (symsL l).length ≤ 2 * l.length + 1 := by
  unfold symsL
  rw [List.length_append]
  have : (l.flatMap Tok.syms).length ≤ 2 * l.length := by
    induction l with
    | nil => simp
    | cons t l ih =>
      rw [List.flatMap_cons, List.length_append, List.length_cons]
      have : t.syms.length ≤ 2 := by unfold Tok.syms; split <;> simp
      omega
  simp only [List.length_cons, List.length_nil]
  omega
end Go.Proofs.YtciejmlhdmjajaaGreat

