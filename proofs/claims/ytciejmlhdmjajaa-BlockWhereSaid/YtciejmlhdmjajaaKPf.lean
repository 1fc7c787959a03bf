/- Package-merge in plain Lean: the lengths of symbols. -/
import Derived.Test.YtciejmlhdmjajaaKPe
namespace Go.Proofs.Ytciejmlhdmjajaa
set_option linter.unusedVariables false
set_option linter.unusedSimpArgs false

section
variable {α : Type} (sym : α → Nat)
/-- How often a symbol is in a row of leaves. -/
def kap (l : List (Nat × α)) (s : Nat) : Nat := tot (fun y : Nat × α => if s = sym y.2 then 1 else 0) l
def dst (L : List (Nat × α)) : Prop := L.Pairwise (fun x y => sym x.2 ≠ sym y.2)
theorem kap_out (l : List (Nat × α)) (s : Nat) (h : ∀ y ∈ l, s ≠ sym y.2) : kap sym l s = 0 := tot_zero _ _ fun y hy => by rw [if_neg (h y hy)]
theorem kap_get : ∀ (L : List (Nat × α)) (a r : Nat) (x : Nat × α), dst sym L → L[r]? = some x → kap sym (L.take a) (sym x.2) = if r < a then 1 else 0
  | [], a, r, x, _, h => by simp at h
  | y :: L, 0, r, x, _, h => by simp [kap, tot]
  | y :: L, a + 1, 0, x, hd, h => by
    simp at h
    subst h
    have h1 := List.pairwise_cons.1 hd
    rw [List.take_succ_cons]
    have : kap sym (L.take a) (sym y.2) = 0 := kap_out sym _ _ fun z hz => h1.1 z (List.mem_of_mem_take hz)
    unfold kap at this ⊢
    simp only [tot, this]
    simp
  | y :: L, a + 1, r + 1, x, hd, h => by
    have h1 := List.pairwise_cons.1 hd
    have hx : L[r]? = some x := by simpa using h
    rw [List.take_succ_cons]
    have ih := kap_get L a r x h1.2 hx
    unfold kap at ih ⊢
    simp only [tot, ih]
    rw [if_neg (Ne.symm (h1.1 x (List.mem_of_getElem? hx)))]
    by_cases hr : r < a
    · rw [if_pos hr, if_pos (by omega)]
    · rw [if_neg hr, if_neg (by omega)]
theorem kap_pick (h : Nat × α → Nat) : ∀ (L : List (Nat × α)) (a : Nat), dst sym L → tot (fun x => h x * kap sym (L.take a) (sym x.2)) L = tot h (L.take a)
  | [], a, _ => by simp [tot]
  | y :: L, 0, _ => by rw [List.take_zero]; exact tot_zero _ _ fun x _ => by simp [kap, tot]
  | y :: L, a + 1, hd => by
    have h1 := List.pairwise_cons.1 hd
    have e := kap_get sym (y :: L) (a + 1) 0 y hd rfl
    rw [if_pos (by omega)] at e
    simp only [tot]
    rw [e, Nat.mul_one, List.take_succ_cons]
    simp only [tot]
    rw [← kap_pick h L a h1.2]
    congr 1
    refine tot_congr _ _ _ fun x hx => ?_
    unfold kap
    simp only [tot]
    rw [if_neg (Ne.symm (h1.1 x hx)), Nat.zero_add]

variable (node : α → α → α) (φ : α → Nat → Nat)
/-- A symbol's length: how often it is in the last row's first things. -/
def lenOf (L : List (Nat × α)) (j s : Nat) : Nat := tot (fun x => φ x.2 s) ((lev node L j).take (2 * L.length - 2))

variable (hφ : ∀ x y s, φ (node x y) s = φ x s + φ y s) (L : List (Nat × α)) (hs : ∀ x ∈ L, ∀ s, φ x.2 s = if s = sym x.2 then 1 else 0) (hL : srt L) (hd : dst sym L)
include hφ hs hL hd
omit hd in
theorem len_shape (j k : Nat) (hk : k ≤ (lev node L j).length) : ∃ a : Nat → Nat, (∀ i, i ≤ j → a i ≤ L.length) ∧ (∀ i, i < j → a i ≤ a (i + 1)) ∧
    (∀ s, tot (fun x => φ x.2 s) ((lev node L j).take k) = sumTo (fun i => kap sym (L.take (a i)) s) j) ∧ tot (·.1) ((lev node L j).take k) = sumTo (fun i => tot (·.1) (L.take (a i))) j ∧ sumTo (fun i => a i * 2 ^ i) j = k * 2 ^ j := by
  obtain ⟨a, a1, a2, a3, a4, _⟩ := shape node L hL j k hk
  refine ⟨a, a1, a2, fun s => ?_, a3 (·.1) (fun x y => rfl), a4⟩
  rw [a3 (fun x => φ x.2 s) (fun x y => hφ _ _ _)]
  exact sumTo_congr _ _ _ fun i _ => tot_congr _ _ _ fun x hx => hs x (List.mem_of_mem_take hx) s
/-- The lengths that package-merge finds. -/
theorem pm (j : Nat) (h2 : 2 ≤ L.length) (hr : L.length ≤ 2 ^ (j + 1)) :
    2 * L.length - 2 ≤ (lev node L j).length ∧
    (∀ x ∈ L, 1 ≤ lenOf node φ L j (sym x.2) ∧ lenOf node φ L j (sym x.2) ≤ j + 1) ∧
    (∀ s, (∀ x ∈ L, s ≠ sym x.2) → lenOf node φ L j s = 0) ∧
    (∀ x ∈ L, ∀ y ∈ L, x.1 < y.1 → lenOf node φ L j (sym y.2) ≤ lenOf node φ L j (sym x.2)) ∧
    tot (fun x => 2 ^ (j + 1 - lenOf node φ L j (sym x.2))) L = 2 ^ (j + 1) ∧
    ∀ ℓ : Nat → Nat, (∀ x ∈ L, 1 ≤ ℓ (sym x.2) ∧ ℓ (sym x.2) ≤ j + 1) → tot (fun x => 2 ^ (j + 1 - ℓ (sym x.2))) L = 2 ^ (j + 1) → tot (fun x => x.1 * lenOf node φ L j (sym x.2)) L ≤ tot (fun x => x.1 * ℓ (sym x.2)) L := by
  have hroom : 2 * L.length - 2 ≤ (lev node L j).length := by
    have := lev_room node L j 2 (by rw [Nat.pow_succ] at hr; omega)
    omega
  obtain ⟨a, a1, a2, a3, a4, a5⟩ := len_shape sym node φ hφ L hs hL j _ hroom
  have e0 : ∀ s, lenOf node φ L j s = sumTo (fun i => kap sym (L.take (a i)) s) j := a3
  have g1 : ∀ x ∈ L, (∀ i, i ≤ j → kap sym (L.take (a i)) (sym x.2) ≤ 1) ∧ ∀ i, i < j → kap sym (L.take (a i)) (sym x.2) ≤ kap sym (L.take (a (i + 1))) (sym x.2) := by
    intro x hx
    obtain ⟨r, hr⟩ := List.getElem?_of_mem hx
    refine ⟨fun i _ => ?_, fun i hi => ?_⟩
    · rw [kap_get sym L _ r x hd hr]; split <;> omega
    · rw [kap_get sym L _ r x hd hr, kap_get sym L _ r x hd hr]
      have := a2 i hi
      by_cases h : r < a i
      · rw [if_pos h, if_pos (by omega)]; exact Nat.le_refl _
      · rw [if_neg h]; exact Nat.zero_le _
  have g2 : ∀ x ∈ L, sumTo (fun i => kap sym (L.take (a i)) (sym x.2) * 2 ^ i) j + 2 ^ (j + 1 - lenOf node φ L j (sym x.2)) = 2 ^ (j + 1) ∧ lenOf node φ L j (sym x.2) ≤ j + 1 := by
    intro x hx
    rw [e0]
    exact sumTo_two _ j (g1 x hx).1 (g1 x hx).2
  have hk2 : (2 * L.length - 2) * 2 ^ j + 2 ^ (j + 1) = L.length * 2 ^ (j + 1) := by
    rw [Nat.pow_succ, Nat.mul_comm (2 ^ j) 2, ← Nat.mul_assoc, ← Nat.add_mul]
    congr 1; omega
  have g3 : tot (fun x => 2 ^ (j + 1 - lenOf node φ L j (sym x.2))) L = 2 ^ (j + 1) := by
    have h1 : tot (fun x => sumTo (fun i => kap sym (L.take (a i)) (sym x.2) * 2 ^ i) j + 2 ^ (j + 1 - lenOf node φ L j (sym x.2))) L = L.length * 2 ^ (j + 1) := by
      rw [← tot_const]
      exact tot_congr _ _ _ fun x hx => (g2 x hx).1
    rw [tot_add, ← sumTo_tot (fun (x : Nat × α) i => kap sym (L.take (a i)) (sym x.2) * 2 ^ i) L j] at h1
    have h3 : sumTo (fun i => tot (fun x : Nat × α => kap sym (L.take (a i)) (sym x.2) * 2 ^ i) L) j = sumTo (fun i => a i * 2 ^ i) j := sumTo_congr _ _ _ fun i hi => by
      rw [tot_mul]
      congr 1
      have := kap_pick sym (fun _ => 1) L (a i) hd
      simp only [Nat.one_mul] at this
      rw [this, tot_length, List.length_take]
      exact Nat.min_eq_left (a1 i hi)
    rw [h3, a5] at h1
    omega
  have gw : tot (fun x => x.1 * lenOf node φ L j (sym x.2)) L = tot (·.1) ((lev node L j).take (2 * L.length - 2)) := by
    rw [a4, tot_congr _ (fun x : Nat × α => sumTo (fun i => x.1 * kap sym (L.take (a i)) (sym x.2)) j) L (fun x _ => by rw [e0, sumTo_mul]), ← sumTo_tot]
    exact sumTo_congr _ _ _ fun i _ => kap_pick sym (fun x => x.1) L (a i) hd
  refine ⟨hroom, fun x hx => ⟨?_, (g2 x hx).2⟩, fun s hn => ?_, fun x hx y hy hxy => ?_, g3, fun ℓ hℓ hw => ?_⟩
  · rcases Nat.eq_zero_or_pos (lenOf node φ L j (sym x.2)) with h0 | h0
    · exfalso
      obtain ⟨r, hr⟩ := List.getElem?_of_mem hx
      have hrl := (List.getElem?_eq_some_iff.1 hr).1
      have h5 := congrArg (tot (fun x => 2 ^ (j + 1 - lenOf node φ L j (sym x.2)))) (List.take_append_drop r L)
      have hdr : L.drop r = x :: L.drop (r + 1) := by
        rw [List.drop_eq_getElem_cons hrl]
        congr 1
        exact (List.getElem?_eq_some_iff.1 hr).2
      rw [tot_append, hdr, g3] at h5
      simp only [tot, h0, Nat.sub_zero] at h5
      have hlen : (L.take r).length + (L.drop (r + 1)).length = L.length - 1 := by rw [List.length_take, List.length_drop]; omega
      have hp : ∀ l : List (Nat × α), l.length ≤ tot (fun x => 2 ^ (j + 1 - lenOf node φ L j (sym x.2))) l := fun l => by
        rw [← tot_length]; exact tot_le _ _ _ fun x _ => Nat.two_pow_pos _
      have := hp (L.take r)
      have := hp (L.drop (r + 1))
      omega
    · exact h0
  · rw [e0, sumTo_congr _ (fun _ => 0) j (fun i _ => kap_out sym _ _ fun y hy => hn y (List.mem_of_mem_take hy)), sumTo_const]; simp
  · obtain ⟨r, hr⟩ := List.getElem?_of_mem hx
    obtain ⟨q, hq⟩ := List.getElem?_of_mem hy
    have hrq : r ≤ q := by
      rcases Nat.lt_or_ge q r with h | h
      · have := srt_get hL hq hr (by omega); omega
      · exact h
    rw [e0, e0]
    refine sumTo_le _ _ _ fun i _ => ?_
    rw [kap_get sym L _ r x hd hr, kap_get sym L _ q y hd hq]
    by_cases h : q < a i
    · rw [if_pos h, if_pos (by omega)]; exact Nat.le_refl _
    · rw [if_neg h]; exact Nat.zero_le _
  · have hg : ∀ x ∈ L, sumTo (fun i => if j + 1 - i ≤ ℓ (sym x.2) then 1 else 0) j = ℓ (sym x.2) := by
      intro x hx
      obtain ⟨l1, l2⟩ := hℓ x hx
      have hgen : ∀ m, m ≤ j → sumTo (fun i => if j + 1 - i ≤ ℓ (sym x.2) then 1 else 0) m = m + 1 + ℓ (sym x.2) - (j + 1) := by
        intro m
        induction m with
        | zero => intro _; simp only [sumTo]; split <;> omega
        | succ m ih => intro hm; have := ih (by omega); simp only [sumTo, this]; split <;> omega
      rw [hgen j (Nat.le_refl _)]; omega
    have hb : sumTo (fun i => (L.filter fun x => decide (j + 1 - i ≤ ℓ (sym x.2))).length * 2 ^ i) j = (2 * L.length - 2) * 2 ^ j := by
      have h1 : tot (fun x => sumTo (fun i => (if j + 1 - i ≤ ℓ (sym x.2) then 1 else 0) * 2 ^ i) j + 2 ^ (j + 1 - ℓ (sym x.2))) L = L.length * 2 ^ (j + 1) := by
        rw [← tot_const]
        refine tot_congr _ _ _ fun x hx => ?_
        have := (sumTo_two (fun i => if j + 1 - i ≤ ℓ (sym x.2) then 1 else 0) j (fun i _ => by split <;> omega) (fun i _ => by split <;> split <;> omega)).1
        rw [hg x hx] at this
        exact this
      rw [tot_add, hw, ← sumTo_tot (fun (x : Nat × α) i => (if j + 1 - i ≤ ℓ (sym x.2) then 1 else 0) * 2 ^ i) L j] at h1
      have h3 : sumTo (fun i => (L.filter fun x => decide (j + 1 - i ≤ ℓ (sym x.2))).length * 2 ^ i) j = sumTo (fun i => tot (fun x : Nat × α => (if j + 1 - i ≤ ℓ (sym x.2) then 1 else 0) * 2 ^ i) L) j := sumTo_congr _ _ _ fun i _ => by
        rw [tot_mul, ← tot_length, tot_filter]
        congr 1
        exact tot_congr _ _ _ fun x _ => by simp
      rw [h3]
      omega
    obtain ⟨_, h6⟩ := best_row node L hL j _ (fun i => (L.filter fun x => decide (j + 1 - i ≤ ℓ (sym x.2))).length) (fun i _ => List.length_filter_le _ _) hb
    rw [gw]
    refine Nat.le_trans h6 ?_
    have e7 : tot (fun x => x.1 * ℓ (sym x.2)) L = sumTo (fun i => tot (fun x : Nat × α => x.1 * if j + 1 - i ≤ ℓ (sym x.2) then 1 else 0) L) j := by
      rw [sumTo_tot (fun (x : Nat × α) i => x.1 * if j + 1 - i ≤ ℓ (sym x.2) then 1 else 0) L j]
      exact tot_congr _ _ _ fun x hx => by rw [← sumTo_mul, hg x hx]
    rw [e7]
    refine sumTo_le _ _ _ fun i _ => ?_
    refine Nat.le_trans (low (T := L.filter fun x => !decide (j + 1 - i ≤ ℓ (sym x.2))) hL (List.filter_append_perm _ _).symm) ?_
    rw [tot_filter]
    exact tot_le _ _ _ fun x _ => by simp only [decide_eq_true_eq]; split <;> simp
end
end Go.Proofs.Ytciejmlhdmjajaa

