/- Package-merge in plain Lean: the lengths of symbols. What rows in memory are, as lists: the levels' rows are package-merge's. -/
import Derived.Test.YtciejmlhdmjajaaKPc
import Derived.Test.YtciejmlhdmjajaaKPe
namespace Go.Proofs.Ytciejmlhdmjajaa
set_option linter.unusedVariables false
set_option linter.unusedSimpArgs false

section
variable {α : Type} (sym : α → Nat)
/-- How often a symbol is in a row of leaves. -/
def kap (l : List (Nat × α)) (s : Nat) : Nat := tot (fun y : Nat × α => if s = sym y.2 then 1 else 0) l
def dst (L : List (Nat × α)) : Prop := L.Pairwise (fun x y => sym x.2 ≠ sym y.2)
theorem kap_out (l : List (Nat × α)) (s : Nat) (h : ∀ y ∈ l, s ≠ sym y.2) : kap sym l s = 0 := tot_zero _ _ fun y hy => by rw [if_neg (h y hy)]
theorem kap_get : ∀ (L : List (Nat × α)) (a r : Nat) (x : Nat × α), dst sym L → L[r]? = some x → kap sym (L.take a) (sym x.2) = if r < a then 1 else 0
  | [], a, r, x, _, h => by simp at h
  | y :: L, 0, r, x, _, h => by simp [kap, tot]
  | y :: L, a + 1, 0, x, hd, h => by
    simp at h
    subst h
    have h1 := List.pairwise_cons.1 hd
    rw [List.take_succ_cons]
    have : kap sym (L.take a) (sym y.2) = 0 := kap_out sym _ _ fun z hz => h1.1 z (List.mem_of_mem_take hz)
    unfold kap at this ⊢
    simp only [tot, this]
    simp
  | y :: L, a + 1, r + 1, x, hd, h => by
    have h1 := List.pairwise_cons.1 hd
    have hx : L[r]? = some x := by simpa using h
    rw [List.take_succ_cons]
    have ih := kap_get L a r x h1.2 hx
    unfold kap at ih ⊢
    simp only [tot, ih]
    rw [if_neg (Ne.symm (h1.1 x (List.mem_of_getElem? hx)))]
    by_cases hr : r < a
    · rw [if_pos hr, if_pos (by omega)]
    · rw [if_neg hr, if_neg (by omega)]
theorem kap_pick (h : Nat × α → Nat) : ∀ (L : List (Nat × α)) (a : Nat), dst sym L → tot (fun x => h x * kap sym (L.take a) (sym x.2)) L = tot h (L.take a)
  | [], a, _ => by simp [tot]
  | y :: L, 0, _ => by rw [List.take_zero]; exact tot_zero _ _ fun x _ => by simp [kap, tot]
  | y :: L, a + 1, hd => by
    have h1 := List.pairwise_cons.1 hd
    have e := kap_get sym (y :: L) (a + 1) 0 y hd rfl
    rw [if_pos (by omega)] at e
    simp only [tot]
    rw [e, Nat.mul_one, List.take_succ_cons]
    simp only [tot]
    rw [← kap_pick h L a h1.2]
    congr 1
    refine tot_congr _ _ _ fun x hx => ?_
    unfold kap
    simp only [tot]
    rw [if_neg (Ne.symm (h1.1 x hx)), Nat.zero_add]

variable (node : α → α → α) (φ : α → Nat → Nat)
/-- A symbol's length: how often it is in the last row's first things. -/
def lenOf (L : List (Nat × α)) (j s : Nat) : Nat := tot (fun x => φ x.2 s) ((lev node L j).take (2 * L.length - 2))

variable (hφ : ∀ x y s, φ (node x y) s = φ x s + φ y s) (L : List (Nat × α)) (hs : ∀ x ∈ L, ∀ s, φ x.2 s = if s = sym x.2 then 1 else 0) (hL : srt L) (hd : dst sym L)
include hφ hs hL hd
omit hd in
theorem len_shape (j k : Nat) (hk : k ≤ (lev node L j).length) : ∃ a : Nat → Nat, (∀ i, i ≤ j → a i ≤ L.length) ∧ (∀ i, i < j → a i ≤ a (i + 1)) ∧
    (∀ s, tot (fun x => φ x.2 s) ((lev node L j).take k) = sumTo (fun i => kap sym (L.take (a i)) s) j) ∧ tot (·.1) ((lev node L j).take k) = sumTo (fun i => tot (·.1) (L.take (a i))) j ∧ sumTo (fun i => a i * 2 ^ i) j = k * 2 ^ j := by
  obtain ⟨a, a1, a2, a3, a4, _⟩ := shape node L hL j k hk
  refine ⟨a, a1, a2, fun s => ?_, a3 (·.1) (fun x y => rfl), a4⟩
  rw [a3 (fun x => φ x.2 s) (fun x y => hφ _ _ _)]
  exact sumTo_congr _ _ _ fun i _ => tot_congr _ _ _ fun x hx => hs x (List.mem_of_mem_take hx) s
/-- The lengths that package-merge finds. -/
theorem pm (j : Nat) (h2 : 2 ≤ L.length) (hr : L.length ≤ 2 ^ (j + 1)) :
    2 * L.length - 2 ≤ (lev node L j).length ∧
    (∀ x ∈ L, 1 ≤ lenOf node φ L j (sym x.2) ∧ lenOf node φ L j (sym x.2) ≤ j + 1) ∧
    (∀ s, (∀ x ∈ L, s ≠ sym x.2) → lenOf node φ L j s = 0) ∧
    (∀ x ∈ L, ∀ y ∈ L, x.1 < y.1 → lenOf node φ L j (sym y.2) ≤ lenOf node φ L j (sym x.2)) ∧
    tot (fun x => 2 ^ (j + 1 - lenOf node φ L j (sym x.2))) L = 2 ^ (j + 1) ∧
    ∀ ℓ : Nat → Nat, (∀ x ∈ L, 1 ≤ ℓ (sym x.2) ∧ ℓ (sym x.2) ≤ j + 1) → tot (fun x => 2 ^ (j + 1 - ℓ (sym x.2))) L = 2 ^ (j + 1) → tot (fun x => x.1 * lenOf node φ L j (sym x.2)) L ≤ tot (fun x => x.1 * ℓ (sym x.2)) L := by
  have hroom : 2 * L.length - 2 ≤ (lev node L j).length := by
    have := lev_room node L j 2 (by rw [Nat.pow_succ] at hr; omega)
    omega
  obtain ⟨a, a1, a2, a3, a4, a5⟩ := len_shape sym node φ hφ L hs hL j _ hroom
  have e0 : ∀ s, lenOf node φ L j s = sumTo (fun i => kap sym (L.take (a i)) s) j := a3
  have g1 : ∀ x ∈ L, (∀ i, i ≤ j → kap sym (L.take (a i)) (sym x.2) ≤ 1) ∧ ∀ i, i < j → kap sym (L.take (a i)) (sym x.2) ≤ kap sym (L.take (a (i + 1))) (sym x.2) := by
    intro x hx
    obtain ⟨r, hr⟩ := List.getElem?_of_mem hx
    refine ⟨fun i _ => ?_, fun i hi => ?_⟩
    · rw [kap_get sym L _ r x hd hr]; split <;> omega
    · rw [kap_get sym L _ r x hd hr, kap_get sym L _ r x hd hr]
      have := a2 i hi
      by_cases h : r < a i
      · rw [if_pos h, if_pos (by omega)]; exact Nat.le_refl _
      · rw [if_neg h]; exact Nat.zero_le _
  have g2 : ∀ x ∈ L, sumTo (fun i => kap sym (L.take (a i)) (sym x.2) * 2 ^ i) j + 2 ^ (j + 1 - lenOf node φ L j (sym x.2)) = 2 ^ (j + 1) ∧ lenOf node φ L j (sym x.2) ≤ j + 1 := by
    intro x hx
    rw [e0]
    exact sumTo_two _ j (g1 x hx).1 (g1 x hx).2
  have hk2 : (2 * L.length - 2) * 2 ^ j + 2 ^ (j + 1) = L.length * 2 ^ (j + 1) := by
    rw [Nat.pow_succ, Nat.mul_comm (2 ^ j) 2, ← Nat.mul_assoc, ← Nat.add_mul]
    congr 1; omega
  have g3 : tot (fun x => 2 ^ (j + 1 - lenOf node φ L j (sym x.2))) L = 2 ^ (j + 1) := by
    have h1 : tot (fun x => sumTo (fun i => kap sym (L.take (a i)) (sym x.2) * 2 ^ i) j + 2 ^ (j + 1 - lenOf node φ L j (sym x.2))) L = L.length * 2 ^ (j + 1) := by
      rw [← tot_const]
      exact tot_congr _ _ _ fun x hx => (g2 x hx).1
    rw [tot_add, ← sumTo_tot (fun (x : Nat × α) i => kap sym (L.take (a i)) (sym x.2) * 2 ^ i) L j] at h1
    have h3 : sumTo (fun i => tot (fun x : Nat × α => kap sym (L.take (a i)) (sym x.2) * 2 ^ i) L) j = sumTo (fun i => a i * 2 ^ i) j := sumTo_congr _ _ _ fun i hi => by
      rw [tot_mul]
      congr 1
      have := kap_pick sym (fun _ => 1) L (a i) hd
      simp only [Nat.one_mul] at this
      rw [this, tot_length, List.length_take]
      exact Nat.min_eq_left (a1 i hi)
    rw [h3, a5] at h1
    omega
  have gw : tot (fun x => x.1 * lenOf node φ L j (sym x.2)) L = tot (·.1) ((lev node L j).take (2 * L.length - 2)) := by
    rw [a4, tot_congr _ (fun x : Nat × α => sumTo (fun i => x.1 * kap sym (L.take (a i)) (sym x.2)) j) L (fun x _ => by rw [e0, sumTo_mul]), ← sumTo_tot]
    exact sumTo_congr _ _ _ fun i _ => kap_pick sym (fun x => x.1) L (a i) hd
  refine ⟨hroom, fun x hx => ⟨?_, (g2 x hx).2⟩, fun s hn => ?_, fun x hx y hy hxy => ?_, g3, fun ℓ hℓ hw => ?_⟩
  · rcases Nat.eq_zero_or_pos (lenOf node φ L j (sym x.2)) with h0 | h0
    · exfalso
      obtain ⟨r, hr⟩ := List.getElem?_of_mem hx
      have hrl := (List.getElem?_eq_some_iff.1 hr).1
      have h5 := congrArg (tot (fun x => 2 ^ (j + 1 - lenOf node φ L j (sym x.2)))) (List.take_append_drop r L)
      have hdr : L.drop r = x :: L.drop (r + 1) := by
        rw [List.drop_eq_getElem_cons hrl]
        congr 1
        exact (List.getElem?_eq_some_iff.1 hr).2
      rw [tot_append, hdr, g3] at h5
      simp only [tot, h0, Nat.sub_zero] at h5
      have hlen : (L.take r).length + (L.drop (r + 1)).length = L.length - 1 := by rw [List.length_take, List.length_drop]; omega
      have hp : ∀ l : List (Nat × α), l.length ≤ tot (fun x => 2 ^ (j + 1 - lenOf node φ L j (sym x.2))) l := fun l => by
        rw [← tot_length]; exact tot_le _ _ _ fun x _ => Nat.two_pow_pos _
      have := hp (L.take r)
      have := hp (L.drop (r + 1))
      omega
    · exact h0
  · rw [e0, sumTo_congr _ (fun _ => 0) j (fun i _ => kap_out sym _ _ fun y hy => hn y (List.mem_of_mem_take hy)), sumTo_const]; simp
  · obtain ⟨r, hr⟩ := List.getElem?_of_mem hx
    obtain ⟨q, hq⟩ := List.getElem?_of_mem hy
    have hrq : r ≤ q := by
      rcases Nat.lt_or_ge q r with h | h
      · have := srt_get hL hq hr (by omega); omega
      · exact h
    rw [e0, e0]
    refine sumTo_le _ _ _ fun i _ => ?_
    rw [kap_get sym L _ r x hd hr, kap_get sym L _ q y hd hq]
    by_cases h : q < a i
    · rw [if_pos h, if_pos (by omega)]; exact Nat.le_refl _
    · rw [if_neg h]; exact Nat.zero_le _
  · have hg : ∀ x ∈ L, sumTo (fun i => if j + 1 - i ≤ ℓ (sym x.2) then 1 else 0) j = ℓ (sym x.2) := by
      intro x hx
      obtain ⟨l1, l2⟩ := hℓ x hx
      have hgen : ∀ m, m ≤ j → sumTo (fun i => if j + 1 - i ≤ ℓ (sym x.2) then 1 else 0) m = m + 1 + ℓ (sym x.2) - (j + 1) := by
        intro m
        induction m with
        | zero => intro _; simp only [sumTo]; split <;> omega
        | succ m ih => intro hm; have := ih (by omega); simp only [sumTo, this]; split <;> omega
      rw [hgen j (Nat.le_refl _)]; omega
    have hb : sumTo (fun i => (L.filter fun x => decide (j + 1 - i ≤ ℓ (sym x.2))).length * 2 ^ i) j = (2 * L.length - 2) * 2 ^ j := by
      have h1 : tot (fun x => sumTo (fun i => (if j + 1 - i ≤ ℓ (sym x.2) then 1 else 0) * 2 ^ i) j + 2 ^ (j + 1 - ℓ (sym x.2))) L = L.length * 2 ^ (j + 1) := by
        rw [← tot_const]
        refine tot_congr _ _ _ fun x hx => ?_
        have := (sumTo_two (fun i => if j + 1 - i ≤ ℓ (sym x.2) then 1 else 0) j (fun i _ => by split <;> omega) (fun i _ => by split <;> split <;> omega)).1
        rw [hg x hx] at this
        exact this
      rw [tot_add, hw, ← sumTo_tot (fun (x : Nat × α) i => (if j + 1 - i ≤ ℓ (sym x.2) then 1 else 0) * 2 ^ i) L j] at h1
      have h3 : sumTo (fun i => (L.filter fun x => decide (j + 1 - i ≤ ℓ (sym x.2))).length * 2 ^ i) j = sumTo (fun i => tot (fun x : Nat × α => (if j + 1 - i ≤ ℓ (sym x.2) then 1 else 0) * 2 ^ i) L) j := sumTo_congr _ _ _ fun i _ => by
        rw [tot_mul, ← tot_length, tot_filter]
        congr 1
        exact tot_congr _ _ _ fun x _ => by simp
      rw [h3]
      omega
    obtain ⟨_, h6⟩ := best_row node L hL j _ (fun i => (L.filter fun x => decide (j + 1 - i ≤ ℓ (sym x.2))).length) (fun i _ => List.length_filter_le _ _) hb
    rw [gw]
    refine Nat.le_trans h6 ?_
    have e7 : tot (fun x => x.1 * ℓ (sym x.2)) L = sumTo (fun i => tot (fun x : Nat × α => x.1 * if j + 1 - i ≤ ℓ (sym x.2) then 1 else 0) L) j := by
      rw [sumTo_tot (fun (x : Nat × α) i => x.1 * if j + 1 - i ≤ ℓ (sym x.2) then 1 else 0) L j]
      exact tot_congr _ _ _ fun x hx => by rw [← sumTo_mul, hg x hx]
    rw [e7]
    refine sumTo_le _ _ _ fun i _ => ?_
    refine Nat.le_trans (low (T := L.filter fun x => !decide (j + 1 - i ≤ ℓ (sym x.2))) hL (List.filter_append_perm _ _).symm) ?_
    rw [tot_filter]
    exact tot_le _ _ _ fun x _ => by simp only [decide_eq_true_eq]; split <;> simp
end
end Go.Proofs.Ytciejmlhdmjajaa
namespace Go.Proofs.Ytciejmlhdmjajaa
open Go.RowKit
set_option linter.unusedVariables false
set_option linter.unusedSimpArgs false

/-- The packages of a row. -/
def pairs (A : Nat → Nat × PT) (k : Nat) : Nat × PT := ((A (2 * k)).1 + (A (2 * k + 1)).1, .node (A (2 * k)).2 (A (2 * k + 1)).2)
/-- Two rows in one, in order. -/
def Stepped (n : Nat) (L A : Nat → Nat × PT) (r : Nat) (A' : Nat → Nat × PT) : Prop := ∃ τ, Shuf 0 (n + r / 2) id τ ∧ SortedS (fun k => (if k < n then L k else pairs A (k - n)).1) τ 0 (n + r / 2) ∧ ∀ k, k < n + r / 2 → A' k = if τ k < n then L (τ k) else pairs A (τ k - n)

/-- The rows of the levels: level 1 has the leaves alone. -/
inductive Lev (n : Nat) (L : Nat → Nat × PT) : Nat → Nat → (Nat → Nat × PT) → Prop
  | one : Lev n L 0 n L
  | more (j r : Nat) (A A' : Nat → Nat × PT) : Lev n L j r A → Stepped n L A r A' → Lev n L (j + 1) (n + r / 2) A'

/-- Pairs by the first, then by the second. -/
def lexB (a b : Nat × Nat) : Bool := decide (a.1 < b.1 ∨ a.1 = b.1 ∧ a.2 ≤ b.2)
theorem lexB_trans (a b c : Nat × Nat) : lexB a b = true → lexB b c = true → lexB a c = true := by
  unfold lexB; simp only [decide_eq_true_eq]; omega
theorem lexB_total (a b : Nat × Nat) : (lexB a b || lexB b a) = true := by
  unfold lexB; simp only [Bool.or_eq_true, decide_eq_true_eq]; omega
theorem lexB_anti (a b : Nat × Nat) (h : lexB a b = true) (k : lexB b a = true) : a = b := by
  unfold lexB at h k
  simp only [decide_eq_true_eq] at h k
  exact Prod.ext (by omega) (by omega)
theorem lex_eq {l m : List (Nat × Nat)} (h : l.Perm m) (hl : l.Pairwise (fun a b => lexB a b = true)) (hm : m.Pairwise (fun a b => lexB a b = true)) : l = m :=
  List.Perm.eq_of_pairwise (fun a b _ _ => lexB_anti a b) hl hm h
theorem shuf_perm {n : Nat} {W τ : Nat → Nat} (h : Shuf 0 n id τ) (hs : SortedS W τ 0 n) : ((List.range n).map τ).Perm (List.range n) := by
  have hnd : ((List.range n).map τ).Nodup := by
    unfold List.Nodup
    rw [List.pairwise_map]
    refine List.Pairwise.imp_of_mem ?_ List.pairwise_lt_range
    intro i j hi hj hij he
    have := hs i j (Nat.zero_le _) hij (List.mem_range.1 hj)
    unfold ltS at this
    rw [he] at this
    omega
  rw [List.perm_ext_iff_of_nodup hnd List.nodup_range]
  intro k
  constructor
  · intro hk
    obtain ⟨i, hi, rfl⟩ := List.mem_map.1 hk
    obtain ⟨j, _, hj, e⟩ := h.2.1 i (Nat.zero_le _) (List.mem_range.1 hi)
    rw [e]; exact List.mem_range.2 hj
  · intro hk
    obtain ⟨j, _, hj, e⟩ := h.2.2 k (Nat.zero_le _) (List.mem_range.1 hk)
    exact List.mem_map.2 ⟨j, List.mem_range.2 hj, e.symm⟩
theorem sorted_lex {n : Nat} {W τ : Nat → Nat} (hs : SortedS W τ 0 n) : ((List.range n).map fun k => (W (τ k), τ k)).Pairwise (fun a b => lexB a b = true) := by
  rw [List.pairwise_map]
  refine List.Pairwise.imp_of_mem ?_ List.pairwise_lt_range
  intro i j hi hj hij
  have := hs i j (Nat.zero_le _) hij (List.mem_range.1 hj)
  unfold ltS at this
  unfold lexB
  simp only [decide_eq_true_eq]
  omega
theorem up_lex {a n : Nat} {W : Nat → Nat} (h : ∀ i j, i < j → j < n → W (a + i) ≤ W (a + j)) : ((List.range n).map fun k => (W (a + k), a + k)).Pairwise (fun a b => lexB a b = true) := by
  rw [List.pairwise_map]
  refine List.Pairwise.imp_of_mem ?_ List.pairwise_lt_range
  intro i j hi hj hij
  have := h i j hij (List.mem_range.1 hj)
  unfold lexB
  simp only [decide_eq_true_eq]
  omega
theorem stepped_list {α : Type} (X : Nat → Nat × α) (n m : Nat) (τ : Nat → Nat) (h : Shuf 0 (n + m) id τ) (hs : SortedS (fun k => (X k).1) τ 0 (n + m)) (h1 : ∀ i j, i < j → j < n → (X i).1 ≤ (X j).1) (h2 : ∀ i j, i < j → j < m → (X (n + i)).1 ≤ (X (n + j)).1) :
    (List.range (n + m)).map (fun k => X (τ k)) = mrg ((List.range n).map X) ((List.range m).map fun k => X (n + k)) := by
  have hT : (List.range (n + m)).map (fun k => ((X (τ k)).1, τ k)) = ((List.range n).map fun k => ((X k).1, k)).merge ((List.range m).map fun k => ((X (n + k)).1, n + k)) lexB := by
    refine lex_eq ?_ (sorted_lex hs) (List.pairwise_merge lexB_trans lexB_total _ _ ?_ (up_lex (W := fun k => (X k).1) h2))
    · refine List.Perm.trans ?_ (List.merge_perm_append lexB).symm
      have e : ((List.range n).map fun k => ((X k).1, k)) ++ ((List.range m).map fun k => ((X (n + k)).1, n + k)) = (List.range (n + m)).map fun k => ((X k).1, k) := by
        rw [List.range_add, List.map_append, List.map_map]; rfl
      rw [e]
      have := (shuf_perm h hs).map fun k => ((X k).1, k)
      rwa [List.map_map] at this
    · have := up_lex (a := 0) (n := n) (W := fun k => (X k).1) (by simpa using h1)
      simpa using this
  have hM := congrArg (List.map fun p : Nat × Nat => X p.2) hT
  rw [List.map_map] at hM
  rw [List.map_merge (s := leP)] at hM
  · rw [List.map_map, List.map_map] at hM
    exact hM
  · intro a ha b hb
    obtain ⟨i, hi, rfl⟩ := List.mem_map.1 ha
    obtain ⟨j, hj, rfl⟩ := List.mem_map.1 hb
    have := List.mem_range.1 hi
    unfold lexB leP
    simp only
    congr 1
    rw [eq_iff_iff]
    omega
theorem prs_map (A : Nat → Nat × PT) (r : Nat) : prs PT.node ((List.range r).map A) = (List.range (r / 2)).map (pairs A) := by
  apply List.ext_getElem?
  intro k
  by_cases hk : k < r / 2
  · rw [prs_get PT.node _ k (A (2 * k)) (A (2 * k + 1)) (by rw [List.getElem?_map, List.getElem?_range (by omega)]; rfl) (by rw [List.getElem?_map, List.getElem?_range (by omega)]; rfl), List.getElem?_map, List.getElem?_range hk]
    rfl
  · rw [List.getElem?_eq_none (by rw [prs_length]; simp; omega), List.getElem?_eq_none (by simp; omega)]
theorem srt_map {α : Type} {A : Nat → Nat × α} {r : Nat} (h : srt ((List.range r).map A)) (i j : Nat) (hij : i < j) (hj : j < r) : (A i).1 ≤ (A j).1 :=
  srt_get h (i := i) (j := j) (by rw [List.getElem?_map, List.getElem?_range (by omega)]; rfl) (by rw [List.getElem?_map, List.getElem?_range hj]; rfl) (by omega)
theorem Lev.list {n : Nat} {L : Nat → Nat × PT} (hL : srt ((List.range n).map L)) {j r : Nat} {A : Nat → Nat × PT} (h : Lev n L j r A) : (List.range r).map A = lev PT.node ((List.range n).map L) j := by
  induction h with
  | one => rfl
  | more j r A A' _ hst ih =>
    obtain ⟨τ, t1, t2, t3⟩ := hst
    rw [lev, ← ih, prs_map]
    have hsr : srt ((List.range r).map A) := by rw [ih]; exact lev_srt PT.node _ hL j
    have hps := prs_srt PT.node _ hsr
    rw [prs_map] at hps
    have e := stepped_list (fun k => if k < n then L k else pairs A (k - n)) n (r / 2) τ t1 t2 (fun i j hij hj => by simp only [if_pos hj, if_pos (show i < n by omega)]; exact srt_map hL i j hij hj) (fun i j hij hj => by
      simp only [if_neg (show ¬ n + i < n by omega), if_neg (show ¬ n + j < n by omega), show n + i - n = i by omega, show n + j - n = j by omega]
      exact srt_map hps i j hij hj)
    have e1 : (List.range (n + r / 2)).map A' = (List.range (n + r / 2)).map (fun k => if τ k < n then L (τ k) else pairs A (τ k - n)) := List.map_congr_left fun k hk => t3 k (List.mem_range.1 hk)
    rw [e1]
    refine e.trans ?_
    congr 1
    · exact List.map_congr_left fun k hk => by rw [if_pos (List.mem_range.1 hk)]
    · exact List.map_congr_left fun k _ => by rw [if_neg (by omega), show n + k - n = k by omega]
theorem Lev.len {n : Nat} {L : Nat → Nat × PT} (hL : srt ((List.range n).map L)) {j r : Nat} {A : Nat → Nat × PT} (h : Lev n L j r A) : (lev PT.node ((List.range n).map L) j).length = r := by
  rw [← h.list hL]; simp

/-- The counts that are, each with its symbol. -/
def cntL : Nat → List Int → List (Nat × Nat)
  | _, [] => []
  | s, c :: xs => if 0 < c then (c.toNat, s) :: cntL (s + 1) xs else cntL (s + 1) xs
theorem cntL_leafL : ∀ (xs : List Int) (s : Nat), (leafL s xs).map (fun t => (t.w, t.s)) = cntL s xs
  | [], s => rfl
  | c :: xs, s => by
    rw [leafL, cntL]
    by_cases h : 0 < c
    · rw [if_pos h, if_pos h, List.map_cons, cntL_leafL]
    · rw [if_neg h, if_neg h, cntL_leafL]
theorem cntL_mem : ∀ (xs : List Int) (s : Nat) (p : Nat × Nat), p ∈ cntL s xs ↔ ∃ i c, xs[i]? = some c ∧ 0 < c ∧ p = (c.toNat, s + i)
  | [], s, p => by simp [cntL]
  | c :: xs, s, p => by
    have ih := cntL_mem xs (s + 1) p
    have e : (∃ i d, (c :: xs)[i]? = some d ∧ 0 < d ∧ p = (d.toNat, s + i)) ↔ (0 < c ∧ p = (c.toNat, s)) ∨ ∃ i d, xs[i]? = some d ∧ 0 < d ∧ p = (d.toNat, s + 1 + i) := by
      constructor
      · rintro ⟨i, d, h1, h2, h3⟩
        cases i with
        | zero => simp at h1; subst h1; exact .inl ⟨h2, by simpa using h3⟩
        | succ i => exact .inr ⟨i, d, by simpa using h1, h2, by rw [h3]; congr 1; omega⟩
      · rintro (⟨h1, h2⟩ | ⟨i, d, h1, h2, h3⟩)
        · exact ⟨0, c, rfl, h1, by simpa using h2⟩
        · exact ⟨i + 1, d, by simpa using h1, h2, by rw [h3]; congr 1; omega⟩
    rw [e, ← ih, cntL]
    by_cases h : 0 < c
    · rw [if_pos h, List.mem_cons]; simp [h]
    · rw [if_neg h]; simp [h]
theorem cntL_up : ∀ (xs : List Int) (s : Nat), (cntL s xs).Pairwise (fun a b => a.2 < b.2)
  | [], s => List.Pairwise.nil
  | c :: xs, s => by
    rw [cntL]
    by_cases h : 0 < c
    · rw [if_pos h]
      refine List.pairwise_cons.2 ⟨fun b hb => ?_, cntL_up xs (s + 1)⟩
      obtain ⟨i, d, _, _, rfl⟩ := (cntL_mem xs (s + 1) b).1 hb
      simp only; omega
    · rw [if_neg h]; exact cntL_up xs (s + 1)
/-- The symbols that count, by rising counts. -/
def sortC (l : List Int) : List (Nat × Nat) := (cntL 0 l).mergeSort lexB
theorem sortC_perm (l : List Int) : (sortC l).Perm (cntL 0 l) := List.mergeSort_perm _ _
theorem sortC_lex (l : List Int) : (sortC l).Pairwise (fun a b => lexB a b = true) := List.pairwise_mergeSort lexB_trans lexB_total _
theorem sortC_of {l : List Int} {S : List (Nat × Nat)} (h : S.Perm (cntL 0 l)) (hs : S.Pairwise (fun a b => lexB a b = true)) : S = sortC l := lex_eq (h.trans (sortC_perm l).symm) hs (sortC_lex l)
theorem sortC_length (l : List Int) : (sortC l).length = (leafL 0 l).length := by
  rw [(sortC_perm l).length_eq, ← cntL_leafL, List.length_map]
/-- A leaf of the first row. -/
def leafP (p : Nat × Nat) : Nat × PT := (p.1, .leaf p.2)
def symP : PT → Nat
  | .leaf s => s
  | .node _ _ => 0
theorem leafs_of {l : List Int} {τ : Nat → Nat} (h : Shuf 0 (leafL 0 l).length id τ) (hs : SortedS (fun k => (rowF (leafL 0 l) k).w) τ 0 (leafL 0 l).length) :
    (List.range (leafL 0 l).length).map (fun k => ((rowF (leafL 0 l) (τ k)).w, (rowF (leafL 0 l) (τ k)).s)) = sortC l := by
  have hrow : (List.range (leafL 0 l).length).map (rowF (leafL 0 l)) = leafL 0 l := by
    apply List.ext_getElem?
    intro i
    by_cases hi : i < (leafL 0 l).length
    · simp [hi, rowF]
    · rw [List.getElem?_eq_none (by simp; omega), List.getElem?_eq_none (by omega)]
  refine sortC_of ?_ ?_
  · rw [← cntL_leafL]
    have h1 := (shuf_perm h hs).map fun k => ((rowF (leafL 0 l) k).w, (rowF (leafL 0 l) k).s)
    rw [List.map_map] at h1
    have h2 := congrArg (List.map fun t : Th => (t.w, t.s)) hrow
    rw [List.map_map] at h2
    rw [← h2]
    exact h1
  · rw [List.pairwise_map]
    refine List.Pairwise.imp_of_mem ?_ List.pairwise_lt_range
    intro i j hi hj hij
    have h3 := hs i j (Nat.zero_le _) hij (List.mem_range.1 hj)
    unfold ltS at h3
    unfold lexB
    simp only [decide_eq_true_eq]
    rcases h3 with h3 | ⟨h3, h4⟩
    · exact .inl h3
    · refine .inr ⟨h3, ?_⟩
      have hj' : τ j < (leafL 0 l).length := shuf_lt h j (List.mem_range.1 hj)
      have hup := cntL_up l 0
      rw [← cntL_leafL, List.pairwise_map, List.pairwise_iff_getElem] at hup
      have := hup (τ i) (τ j) (by omega) hj' h4
      unfold rowF
      rw [List.getD_eq_getElem?_getD, List.getD_eq_getElem?_getD, List.getElem?_eq_getElem (by omega), List.getElem?_eq_getElem hj']
      simp only [Option.getD_some]
      omega
theorem sortC_srt (l : List Int) : srt ((sortC l).map leafP) := by
  unfold srt
  rw [List.pairwise_map]
  refine (sortC_lex l).imp fun {a b} h => ?_
  unfold lexB at h
  simp only [decide_eq_true_eq] at h
  simp only [leafP]; omega
theorem sortC_dst (l : List Int) : dst symP ((sortC l).map leafP) := by
  unfold dst
  rw [List.pairwise_map]
  have h : (cntL 0 l).Pairwise (fun a b => a.2 ≠ b.2) := (cntL_up l 0).imp fun h => Nat.ne_of_lt h
  exact (sortC_perm l).symm.pairwise h fun h => Ne.symm h
theorem sortC_mem (l : List Int) (p : Nat × Nat) : p ∈ sortC l ↔ ∃ c, l[p.2]? = some c ∧ 0 < c ∧ p.1 = c.toNat := by
  rw [(sortC_perm l).mem_iff, cntL_mem]
  constructor
  · rintro ⟨i, c, h1, h2, rfl⟩; exact ⟨c, by simpa using h1, h2, rfl⟩
  · rintro ⟨c, h1, h2, h3⟩; exact ⟨p.2, c, h1, h2, Prod.ext h3 (by simp)⟩
theorem occ_leafP (l : List (Nat × Nat)) : ∀ x ∈ l.map leafP, ∀ s, occ x.2 s = if s = symP x.2 then 1 else 0 := by
  intro x hx s
  obtain ⟨p, _, rfl⟩ := List.mem_map.1 hx
  rfl
/-- How often a symbol is in the first k things of a row. -/
def sumOcc (A : Nat → Nat × PT) : Nat → Nat → Nat
  | 0, _ => 0
  | k + 1, s => sumOcc A k s + occ (A k).2 s
theorem sumOcc_tot (A : Nat → Nat × PT) (k s : Nat) : sumOcc A k s = tot (fun x : Nat × PT => occ x.2 s) ((List.range k).map A) := by
  induction k with
  | zero => rfl
  | succ k ih => rw [List.range_succ, List.map_append, tot_append, ← ih]; simp [sumOcc, tot]
/-- A row's symbols: as many as there are levels, and none that does not count. -/
theorem Lev.occs {l : List Int} {n : Nat} {L : Nat → Nat × PT} (hL : (List.range n).map L = (sortC l).map leafP) {j r : Nat} {A : Nat → Nat × PT} (h : Lev n L j r A) (k : Nat) (hk : k ≤ r) (s : Nat) :
    sumOcc A k s = tot (fun x : Nat × PT => occ x.2 s) ((lev PT.node ((sortC l).map leafP) j).take k) ∧ sumOcc A k s ≤ j + 1 ∧ (0 < sumOcc A k s → s < l.length) := by
  have hsr : srt ((List.range n).map L) := by rw [hL]; exact sortC_srt l
  have e := h.list hsr
  rw [hL] at e
  have e1 : sumOcc A k s = tot (fun x : Nat × PT => occ x.2 s) ((lev PT.node ((sortC l).map leafP) j).take k) := by
    rw [sumOcc_tot, ← e, ← List.map_take, List.take_range, Nat.min_eq_left hk]
  have hlen : k ≤ (lev PT.node ((sortC l).map leafP) j).length := by rw [← e]; simpa using hk
  obtain ⟨a, a1, a2, a3, _, _⟩ := len_shape symP PT.node occ (fun _ _ _ => rfl) ((sortC l).map leafP) (occ_leafP _) (sortC_srt l) j k hlen
  refine ⟨e1, ?_, fun hpos => ?_⟩
  · rw [e1, a3]
    have hone : ∀ m, kap symP (((sortC l).map leafP).take m) s ≤ 1 := by
      intro m
      by_cases hex : ∃ x ∈ (sortC l).map leafP, s = symP x.2
      · obtain ⟨x, hx, rfl⟩ := hex
        obtain ⟨q, hq⟩ := List.getElem?_of_mem hx
        rw [kap_get symP _ m q x (sortC_dst l) hq]
        split <;> omega
      · rw [kap_out symP _ s fun y hy he => hex ⟨y, List.mem_of_mem_take hy, he⟩]; omega
    refine Nat.le_trans (sumTo_le _ (fun _ => 1) j fun i _ => hone _) ?_
    rw [sumTo_const]; omega
  · rw [e1, a3] at hpos
    rcases Nat.lt_or_ge s l.length with h1 | h1
    · exact h1
    · exfalso
      rw [sumTo_congr _ (fun _ => 0) j (fun i _ => kap_out symP _ s fun y hy he => by
        obtain ⟨p, hp, rfl⟩ := List.mem_map.1 (List.mem_of_mem_take hy)
        obtain ⟨c, hc, _⟩ := (sortC_mem l p).1 hp
        have := (List.getElem?_eq_some_iff.1 hc).1
        simp only [leafP, symP] at he
        omega), sumTo_const] at hpos
      simp at hpos
end Go.Proofs.Ytciejmlhdmjajaa

