/- Package-merge in plain Lean: what the rows of the levels are, that the lengths are whole, and that none weigh less. Package-merge in plain Lean: the lengths of symbols. What rows in memory are, as lists: the levels' rows are package-merge's. How long codes must be: Needs, and the number of a number's bits. pack.Lens: the walk where all is well. -/
import Derived.Test.YtciejmlhdmjajaaGreatKRg
import Derived.Test.YtciejmlhdmjajaaGreatKWb
import Derived.Test.YtciejmlhdmjajaaGreatKPc
import Derived.WalkKit
import Derived.Deep.CutRange
import Derived.Laws.EntriesVeiled
import Derived.Deep.RegionHeld3
import Derived.Deep.AppendLies
namespace Go.Proofs.YtciejmlhdmjajaaGreat
set_option linter.unusedVariables false
set_option linter.unusedSimpArgs false

/-- A sum over a list. -/
def tot {β : Type} (f : β → Nat) : List β → Nat
  | [] => 0
  | x :: l => f x + tot f l
theorem tot_append {β : Type} (f : β → Nat) (a b : List β) : tot f (a ++ b) = tot f a + tot f b := by
  induction a with
  | nil => simp [tot]
  | cons x a ih => simp only [List.cons_append, tot, ih]; omega
theorem tot_perm {β : Type} (f : β → Nat) {a b : List β} (h : a.Perm b) : tot f a = tot f b := by
  induction h with
  | nil => rfl
  | cons x _ ih => simp only [tot, ih]
  | swap x y l => simp only [tot]; omega
  | trans _ _ ih1 ih2 => rw [ih1, ih2]
theorem tot_le {β : Type} (f g : β → Nat) (l : List β) (h : ∀ x ∈ l, f x ≤ g x) : tot f l ≤ tot g l := by
  induction l with
  | nil => exact Nat.le_refl _
  | cons x l ih => have := ih (fun y hy => h y (by simp [hy])); have := h x (by simp); simp only [tot]; omega
theorem tot_congr {β : Type} (f g : β → Nat) (l : List β) (h : ∀ x ∈ l, f x = g x) : tot f l = tot g l :=
  Nat.le_antisymm (tot_le f g l fun x hx => Nat.le_of_eq (h x hx)) (tot_le g f l fun x hx => Nat.le_of_eq (h x hx).symm)
theorem tot_add {β : Type} (f g : β → Nat) (l : List β) : tot (fun x => f x + g x) l = tot f l + tot g l := by
  induction l with
  | nil => rfl
  | cons x l ih => simp only [tot, ih]; omega
theorem tot_mul {β : Type} (f : β → Nat) (c : Nat) (l : List β) : tot (fun x => f x * c) l = tot f l * c := by
  induction l with
  | nil => simp [tot]
  | cons x l ih => simp only [tot, ih, Nat.add_mul]
theorem tot_const {β : Type} (c : Nat) (l : List β) : tot (fun _ => c) l = l.length * c := by
  induction l with
  | nil => simp [tot]
  | cons x l ih => simp only [tot, ih, List.length_cons, Nat.add_mul]; omega
theorem tot_zero {β : Type} (f : β → Nat) (l : List β) (h : ∀ x ∈ l, f x = 0) : tot f l = 0 := by
  rw [tot_congr f (fun _ => 0) l h, tot_const]; simp
theorem tot_map {β γ : Type} (f : γ → Nat) (g : β → γ) (l : List β) : tot f (l.map g) = tot (fun x => f (g x)) l := by
  induction l with
  | nil => rfl
  | cons x l ih => simp only [List.map_cons, tot, ih]
theorem tot_mem {β : Type} (f : β → Nat) {l : List β} {x : β} (h : x ∈ l) : f x ≤ tot f l := by
  induction l with
  | nil => simp at h
  | cons y l ih =>
    rcases List.mem_cons.1 h with rfl | h
    · simp only [tot]; omega
    · have := ih h; simp only [tot]; omega
theorem tot_filter {β : Type} (f : β → Nat) (p : β → Bool) (l : List β) : tot f (l.filter p) = tot (fun x => if p x then f x else 0) l := by
  induction l with
  | nil => rfl
  | cons x l ih =>
    rw [List.filter_cons]
    by_cases h : p x = true
    · rw [if_pos h]; simp only [tot, ih, if_pos h]
    · rw [if_neg h]; simp only [tot, ih, if_neg h]; omega
theorem tot_length {β : Type} (l : List β) : tot (fun _ => 1) l = l.length := by rw [tot_const]; omega

/-- A sum over the levels up to j. -/
def sumTo (g : Nat → Nat) : Nat → Nat
  | 0 => g 0
  | j + 1 => sumTo g j + g (j + 1)
theorem sumTo_le (f g : Nat → Nat) : ∀ j, (∀ i, i ≤ j → f i ≤ g i) → sumTo f j ≤ sumTo g j
  | 0, h => h 0 (Nat.le_refl _)
  | j + 1, h => Nat.add_le_add (sumTo_le f g j fun i hi => h i (by omega)) (h (j + 1) (Nat.le_refl _))
theorem sumTo_congr (f g : Nat → Nat) (j : Nat) (h : ∀ i, i ≤ j → f i = g i) : sumTo f j = sumTo g j :=
  Nat.le_antisymm (sumTo_le f g j fun i hi => Nat.le_of_eq (h i hi)) (sumTo_le g f j fun i hi => Nat.le_of_eq (h i hi).symm)
theorem sumTo_tot {β : Type} (f : β → Nat → Nat) (l : List β) : ∀ j, sumTo (fun i => tot (fun x => f x i) l) j = tot (fun x => sumTo (f x) j) l
  | 0 => rfl
  | j + 1 => by simp only [sumTo]; rw [sumTo_tot f l j, ← tot_add]
theorem sumTo_const (c : Nat) : ∀ j, sumTo (fun _ => c) j = (j + 1) * c
  | 0 => by simp [sumTo]
  | j + 1 => by rw [sumTo, sumTo_const c j]; simp only [Nat.add_mul]; omega
theorem sumTo_mul (f : Nat → Nat) (c : Nat) : ∀ j, c * sumTo f j = sumTo (fun i => c * f i) j
  | 0 => rfl
  | j + 1 => by simp only [sumTo]; rw [Nat.mul_add, sumTo_mul f c j]
/-- What grows from 0 to 1, weighed by twos. -/
theorem sumTo_two (g : Nat → Nat) : ∀ j, (∀ i, i ≤ j → g i ≤ 1) → (∀ i, i < j → g i ≤ g (i + 1)) → sumTo (fun i => g i * 2 ^ i) j + 2 ^ (j + 1 - sumTo g j) = 2 ^ (j + 1) ∧ sumTo g j ≤ j + 1
  | 0, h, _ => by
    have := h 0 (Nat.le_refl _)
    simp only [sumTo]
    rcases (show g 0 = 0 ∨ g 0 = 1 by omega) with e | e <;> simp [e]
  | j + 1, h, k => by
    obtain ⟨e1, e2⟩ := sumTo_two g j (fun i hi => h i (by omega)) (fun i hi => k i (by omega))
    have h1 := h (j + 1) (Nat.le_refl _)
    simp only [sumTo]
    rcases (show g (j + 1) = 0 ∨ g (j + 1) = 1 by omega) with e | e
    · have hz : ∀ i, i ≤ j → g i = 0 := by
        have hd : ∀ d, d ≤ j → g (j - d) = 0 := by
          intro d
          induction d with
          | zero => intro _; have := k j (by omega); rw [Nat.sub_zero]; omega
          | succ d ih => intro hd; have := ih (by omega); have := k (j - (d + 1)) (by omega); rw [show j - (d + 1) + 1 = j - d by omega] at this; omega
        intro i hi
        have := hd (j - i) (by omega)
        rwa [show j - (j - i) = i by omega] at this
      have s0 : sumTo g j = 0 := by rw [sumTo_congr g (fun _ => 0) j hz, sumTo_const]; simp
      have s1 : sumTo (fun i => g i * 2 ^ i) j = 0 := by rw [sumTo_congr _ (fun _ => 0) j (fun i hi => by rw [hz i hi]; simp), sumTo_const]; simp
      rw [e, s0, s1]; simp
    · rw [e, show j + 1 + 1 - (sumTo g j + 1) = j + 1 - sumTo g j by omega, Nat.one_mul]
      refine ⟨?_, by omega⟩
      have : 2 ^ (j + 1 + 1) = 2 ^ (j + 1) + 2 ^ (j + 1) := by rw [Nat.pow_succ]; omega
      omega

section
variable {α : Type}
def srt (l : List (Nat × α)) : Prop := l.Pairwise (fun a b => a.1 ≤ b.1)
def leP (a b : Nat × α) : Bool := decide (a.1 ≤ b.1)
/-- Two rows in one; where weights are the same the first one's are ahead. -/
def mrg (A B : List (Nat × α)) : List (Nat × α) := A.merge B leP
theorem mrg_nil (B : List (Nat × α)) : mrg [] B = B := List.nil_merge B
theorem mrg_right (A : List (Nat × α)) : mrg A [] = A := List.merge_right A
theorem mrg_cons (a b : Nat × α) (A B : List (Nat × α)) : mrg (a :: A) (b :: B) = if a.1 ≤ b.1 then a :: mrg A (b :: B) else b :: mrg (a :: A) B := by
  unfold mrg
  rw [List.cons_merge_cons]
  simp [leP]
theorem mrg_perm (A B : List (Nat × α)) : (mrg A B).Perm (A ++ B) := List.merge_perm_append leP
theorem mrg_length (A B : List (Nat × α)) : (mrg A B).length = A.length + B.length := by rw [(mrg_perm A B).length_eq, List.length_append]
theorem mrg_srt {A B : List (Nat × α)} (h : srt A) (k : srt B) : srt (mrg A B) := by
  have := List.pairwise_merge (le := leP (α := α)) (fun a b c h1 h2 => by simp [leP] at *; omega) (fun a b => by simp [leP]; omega) A B (h.imp fun h => by simpa [leP] using h) (k.imp fun h => by simpa [leP] using h)
  exact this.imp fun h => by simpa [leP] using h
theorem srt_get {R : List (Nat × α)} (h : srt R) {i j : Nat} {x y : Nat × α} (hi : R[i]? = some x) (hj : R[j]? = some y) (hij : i ≤ j) : x.1 ≤ y.1 := by
  obtain ⟨h1, rfl⟩ := List.getElem?_eq_some_iff.1 hi
  obtain ⟨h2, rfl⟩ := List.getElem?_eq_some_iff.1 hj
  rcases Nat.lt_or_ge i j with hl | hl
  · exact List.pairwise_iff_getElem.1 h i j h1 h2 hl
  · have : i = j := by omega
    subst this; exact Nat.le_refl _
theorem srt_mem {R : List (Nat × α)} (h : srt R) {k : Nat} {x y : Nat × α} (hx : x ∈ R.take k) (hy : R[k - 1]? = some y) : x.1 ≤ y.1 := by
  obtain ⟨i, hi⟩ := List.getElem?_of_mem hx
  have hl : i < (R.take k).length := (List.getElem?_eq_some_iff.1 hi).1
  rw [List.length_take] at hl
  rw [List.getElem?_take_of_lt (by omega)] at hi
  exact srt_get h hi hy (by omega)
/-- The first of the merged row are the first of both. -/
theorem mrg_cut : ∀ (A B : List (Nat × α)) (k : Nat), srt A → k ≤ A.length + B.length → ∃ a p, a ≤ A.length ∧ p ≤ B.length ∧ a + p = k ∧ ((mrg A B).take k).Perm (A.take a ++ B.take p) ∧ ∀ x y, 0 < p → B[p - 1]? = some y → A[a]? = some x → y.1 < x.1
  | [], B, k, _, hk => ⟨0, k, Nat.le_refl _, by simpa using hk, by omega, by rw [mrg_nil]; simp, fun x y _ _ h => by simp at h⟩
  | a :: A, [], k, _, hk => ⟨k, 0, by simpa using hk, Nat.le_refl _, by omega, by rw [mrg_right]; simp, fun x y h => by omega⟩
  | a :: A, b :: B, 0, _, _ => ⟨0, 0, by omega, by omega, rfl, by simp, fun x y h => by omega⟩
  | a :: A, b :: B, k + 1, hA, hk => by
    rw [mrg_cons]
    by_cases h : a.1 ≤ b.1
    · obtain ⟨c, p, h1, h2, h3, h4, h5⟩ := mrg_cut A (b :: B) k (List.Pairwise.of_cons hA) (by simp only [List.length_cons] at hk ⊢; omega)
      refine ⟨c + 1, p, by simp only [List.length_cons]; omega, h2, by omega, ?_, fun x y hp hy hx => h5 x y hp hy (by simpa using hx)⟩
      rw [if_pos h, List.take_succ_cons, List.take_succ_cons, List.cons_append]
      exact h4.cons a
    · obtain ⟨c, p, h1, h2, h3, h4, h5⟩ := mrg_cut (a :: A) B k hA (by simp only [List.length_cons] at hk ⊢; omega)
      refine ⟨c, p + 1, h1, by simp only [List.length_cons]; omega, by omega, ?_, fun x y hp hy hx => ?_⟩
      · rw [if_neg h, List.take_succ_cons, List.take_succ_cons]
        exact (h4.cons b).trans List.perm_middle.symm
      · cases p with
        | zero =>
          simp at hy
          subst hy
          have := srt_get (R := a :: A) hA (i := 0) rfl hx (Nat.zero_le _)
          omega
        | succ p => exact h5 x y (by omega) (by simpa using hy) hx
termination_by A B => A.length + B.length
/-- No other part of a row in order weighs less than its first ones. -/
theorem low {R S T : List (Nat × α)} (h : srt R) (hp : R.Perm (S ++ T)) : tot (·.1) (R.take S.length) ≤ tot (·.1) S := by
  rcases Nat.eq_zero_or_pos S.length with h0 | h0
  · rw [h0]; simp [tot]
  have hlen := hp.length_eq
  rw [List.length_append] at hlen
  obtain ⟨y, hy⟩ : ∃ y, R[S.length - 1]? = some y := ⟨R[S.length - 1]'(by omega), List.getElem?_eq_getElem _⟩
  have e1 : tot (fun x => x.1 + (y.1 - x.1)) (R.take S.length) = S.length * y.1 := by
    rw [tot_congr _ (fun _ => y.1) _ (fun x hx => by have := srt_mem h hx hy; omega), tot_const, List.length_take]
    congr 1; omega
  have e2 : S.length * y.1 ≤ tot (fun x => x.1 + (y.1 - x.1)) S := by
    rw [← tot_const]
    exact tot_le _ _ _ fun x _ => by omega
  have e3 : tot (fun x => y.1 - x.1) (R.drop S.length) = 0 := tot_zero _ _ fun x hx => by
    obtain ⟨i, hi⟩ := List.getElem?_of_mem hx
    rw [List.getElem?_drop] at hi
    have := srt_get h hy hi (by omega)
    omega
  have e4 := tot_perm (fun x : Nat × α => y.1 - x.1) hp
  rw [← List.take_append_drop S.length R, tot_append, tot_append, e3] at e4
  rw [tot_add (fun x : Nat × α => x.1)] at e1 e2
  have q1 : tot (fun x : Nat × α => x.1) S = tot Prod.fst S := rfl
  have q2 : tot (fun x : Nat × α => x.1) (R.take S.length) = tot Prod.fst (R.take S.length) := rfl
  omega

variable (node : α → α → α)
/-- The packages of a row. -/
def prs : List (Nat × α) → List (Nat × α)
  | x :: y :: r => (x.1 + y.1, node x.2 y.2) :: prs r
  | _ => []
theorem prs_length : ∀ R : List (Nat × α), (prs node R).length = R.length / 2
  | [] => by simp [prs]
  | [x] => by simp [prs]
  | x :: y :: r => by rw [prs, List.length_cons, prs_length r, List.length_cons, List.length_cons]; omega
theorem prs_get : ∀ (R : List (Nat × α)) (k : Nat) (x y : Nat × α), R[2 * k]? = some x → R[2 * k + 1]? = some y → (prs node R)[k]? = some (x.1 + y.1, node x.2 y.2)
  | [], k, x, y, h, _ => by simp at h
  | [z], k, x, y, _, h => by simp at h
  | u :: v :: r, 0, x, y, h, g => by simp at h g; subst h; subst g; rfl
  | u :: v :: r, k + 1, x, y, h, g => by
    rw [prs, List.getElem?_cons_succ]
    exact prs_get r k x y (by rw [show 2 * (k + 1) = 2 * k + 1 + 1 by omega] at h; simpa using h) (by rw [show 2 * (k + 1) + 1 = 2 * k + 1 + 1 + 1 by omega] at g; simpa using g)
theorem prs_srt (R : List (Nat × α)) (h : srt R) : srt (prs node R) := by
  unfold srt
  rw [List.pairwise_iff_getElem]
  intro i j hi hj hij
  rw [prs_length] at hi hj
  have g1 := prs_get node R i R[2 * i] R[2 * i + 1] (List.getElem?_eq_getElem (by omega)) (List.getElem?_eq_getElem (by omega))
  have g2 := prs_get node R j R[2 * j] R[2 * j + 1] (List.getElem?_eq_getElem (by omega)) (List.getElem?_eq_getElem (by omega))
  obtain ⟨_, e1⟩ := List.getElem?_eq_some_iff.1 g1
  obtain ⟨_, e2⟩ := List.getElem?_eq_some_iff.1 g2
  rw [e1, e2]
  have a := srt_get h (i := 2 * i) (j := 2 * j) (List.getElem?_eq_getElem (by omega)) (List.getElem?_eq_getElem (by omega)) (by omega)
  have b := srt_get h (i := 2 * i + 1) (j := 2 * j + 1) (List.getElem?_eq_getElem (by omega)) (List.getElem?_eq_getElem (by omega)) (by omega)
  simp only
  omega
theorem prs_tot (f : Nat × α → Nat) (hf : ∀ x y : Nat × α, f (x.1 + y.1, node x.2 y.2) = f x + f y) : ∀ (R : List (Nat × α)) (p : Nat), 2 * p ≤ R.length → tot f ((prs node R).take p) = tot f (R.take (2 * p))
  | [], p, h => by obtain rfl : p = 0 := by simp at h; omega
                   rfl
  | [z], p, h => by simp at h; have : p = 0 := by omega
                    subst this; rfl
  | x :: y :: r, 0, _ => rfl
  | x :: y :: r, p + 1, h => by
    rw [prs, List.take_succ_cons, show 2 * (p + 1) = 2 * p + 1 + 1 by omega, List.take_succ_cons, List.take_succ_cons]
    simp only [tot]
    rw [prs_tot f hf r p (by simp only [List.length_cons] at h; omega), hf]
    omega
/-- The rows of the levels; level 0 has the leaves alone. -/
def lev (L : List (Nat × α)) : Nat → List (Nat × α)
  | 0 => L
  | j + 1 => mrg L (prs node (lev L j))
variable (L : List (Nat × α)) (hL : srt L)
include hL
theorem lev_srt : ∀ j, srt (lev node L j)
  | 0 => hL
  | j + 1 => mrg_srt hL (prs_srt node _ (lev_srt j))
omit hL
theorem lev_length (j : Nat) : (lev node L (j + 1)).length = L.length + (lev node L j).length / 2 := by
  rw [lev, mrg_length, prs_length]
theorem lev_room : ∀ j t, L.length ≤ t * 2 ^ j → 2 * L.length ≤ (lev node L j).length + t
  | 0, t, h => by simp at h; show 2 * L.length ≤ L.length + t; omega
  | j + 1, t, h => by
    have := lev_room j (2 * t) (by rw [Nat.pow_succ] at h; rw [Nat.mul_comm 2 t, Nat.mul_assoc, Nat.mul_comm 2]; exact h)
    rw [lev_length]
    omega
theorem lev_le : ∀ j, (lev node L j).length ≤ 2 * L.length
  | 0 => by show L.length ≤ _; omega
  | j + 1 => by have := lev_le j; rw [lev_length]; omega
include hL
/-- Of what the first things of a level's row are made: first leaves of each level, no fewer on the later levels. -/
theorem shape : ∀ j k, k ≤ (lev node L j).length → ∃ a : Nat → Nat, (∀ i, i ≤ j → a i ≤ L.length) ∧ (∀ i, i < j → a i ≤ a (i + 1)) ∧
    (∀ f : Nat × α → Nat, (∀ x y : Nat × α, f (x.1 + y.1, node x.2 y.2) = f x + f y) → tot f ((lev node L j).take k) = sumTo (fun i => tot f (L.take (a i))) j) ∧
    sumTo (fun i => a i * 2 ^ i) j = k * 2 ^ j ∧ ∀ x y, 0 < a j → L[a j - 1]? = some x → (lev node L j)[k - 1]? = some y → x.1 ≤ y.1
  | 0, k, hk => ⟨fun _ => k, fun i _ => hk, fun i h => by omega, fun f _ => rfl, rfl, fun x y h h1 h2 => srt_get hL h1 h2 (Nat.le_refl _)⟩
  | j + 1, k, hk => by
    rw [lev, mrg_length] at hk
    obtain ⟨c, p, h1, h2, h3, h4, h5⟩ := mrg_cut L (prs node (lev node L j)) k hL hk
    have h2' := h2
    rw [prs_length] at h2'
    obtain ⟨a, a1, a2, a3, a4, a5⟩ := shape j (2 * p) (by omega)
    have hpow : 0 < 2 ^ j := Nat.two_pow_pos j
    have ha : a j ≤ c := by
      rcases Nat.lt_or_ge c (a j) with hlt | hge
      · exfalso
        have hp : 0 < p := by
          rcases Nat.eq_zero_or_pos p with hp | hp
          · exfalso
            rw [hp] at a4
            have : a j * 2 ^ j ≤ sumTo (fun i => a i * 2 ^ i) j := by cases j with
              | zero => exact Nat.le_refl _
              | succ j => simp only [sumTo]; omega
            have : 2 ^ j ≤ a j * 2 ^ j := Nat.le_mul_of_pos_left _ (by omega)
            omega
          · exact hp
        have hcl := a1 j (Nat.le_refl _)
        obtain ⟨x, hx⟩ : ∃ x, L[c]? = some x := ⟨L[c]'(by omega), List.getElem?_eq_getElem _⟩
        obtain ⟨z, hz⟩ : ∃ z, L[a j - 1]? = some z := ⟨L[a j - 1]'(by omega), List.getElem?_eq_getElem _⟩
        obtain ⟨u, hu⟩ : ∃ u, (lev node L j)[2 * (p - 1)]? = some u := ⟨(lev node L j)[2 * (p - 1)]'(by omega), List.getElem?_eq_getElem _⟩
        obtain ⟨v, hv⟩ : ∃ v, (lev node L j)[2 * (p - 1) + 1]? = some v := ⟨(lev node L j)[2 * (p - 1) + 1]'(by omega), List.getElem?_eq_getElem _⟩
        have g := h5 x _ hp (prs_get node _ (p - 1) u v hu hv) hx
        have g2 := a5 z v (by omega) hz (by rw [show 2 * p - 1 = 2 * (p - 1) + 1 by omega]; exact hv)
        have g3 := srt_get hL hx hz (by omega)
        simp only at g
        omega
      · exact hge
    refine ⟨fun i => if i = j + 1 then c else a i, ?_, ?_, ?_, ?_, ?_⟩
    · intro i hi
      by_cases e : i = j + 1
      · simp only [if_pos e]; exact h1
      · simp only [if_neg e]; exact a1 i (by omega)
    · intro i hi
      by_cases e : i = j
      · subst e; simp; exact ha
      · simp only [if_neg (show i ≠ j + 1 by omega), if_neg (show i + 1 ≠ j + 1 by omega)]; exact a2 i (by omega)
    · intro f hf
      rw [lev, tot_perm f h4, tot_append, prs_tot node f hf _ p (by omega), a3 f hf]
      simp only [sumTo, if_pos]
      rw [sumTo_congr (fun i => tot f (L.take (if i = j + 1 then c else a i))) (fun i => tot f (L.take (a i))) j (fun i hi => by rw [if_neg (by omega)])]
      omega
    · simp only [sumTo, if_pos]
      rw [sumTo_congr (fun i => (if i = j + 1 then c else a i) * 2 ^ i) (fun i => a i * 2 ^ i) j (fun i hi => by rw [if_neg (by omega)]), a4, ← h3, Nat.add_mul, Nat.pow_succ]
      have : 2 * p * 2 ^ j = p * (2 ^ j * 2) := by rw [Nat.mul_comm 2 p, Nat.mul_assoc, Nat.mul_comm 2]
      omega
    · intro x y hc hx hy
      simp only [if_pos] at hc hx
      refine srt_mem (lev_srt node L hL (j + 1)) (k := k) ?_ hy
      rw [lev]
      refine h4.symm.subset (List.mem_append_left _ ?_)
      have : (L.take c)[c - 1]? = some x := by rw [List.getElem?_take_of_lt (by omega)]; exact hx
      exact List.mem_of_getElem? this
/-- No other choice of leaves weighs less. -/
theorem best_row : ∀ j k (b : Nat → Nat), (∀ i, i ≤ j → b i ≤ L.length) → sumTo (fun i => b i * 2 ^ i) j = k * 2 ^ j → k ≤ (lev node L j).length ∧ tot (·.1) ((lev node L j).take k) ≤ sumTo (fun i => tot (·.1) (L.take (b i))) j
  | 0, k, b, hb, h => by
    simp only [sumTo] at h ⊢
    have : b 0 = k := by simpa using h
    subst this
    exact ⟨hb 0 (Nat.le_refl _), Nat.le_refl _⟩
  | j + 1, k, b, hb, h => by
    simp only [sumTo] at h ⊢
    have hbk : b (j + 1) ≤ k := by
      rcases Nat.lt_or_ge k (b (j + 1)) with hlt | hge
      · have := Nat.mul_lt_mul_of_pos_right hlt (Nat.two_pow_pos (j + 1)); omega
      · exact hge
    have h2 : sumTo (fun i => b i * 2 ^ i) j = 2 * (k - b (j + 1)) * 2 ^ j := by
      have e : k * 2 ^ (j + 1) = (k - b (j + 1)) * 2 ^ (j + 1) + b (j + 1) * 2 ^ (j + 1) := by rw [← Nat.add_mul]; congr 1; omega
      have e2 : 2 * (k - b (j + 1)) * 2 ^ j = (k - b (j + 1)) * 2 ^ (j + 1) := by rw [Nat.mul_comm 2, Nat.mul_assoc, Nat.mul_comm 2, Nat.pow_succ]
      omega
    obtain ⟨i1, i2⟩ := best_row j (2 * (k - b (j + 1))) b (fun i hi => hb i (by omega)) h2
    have hbl := hb (j + 1) (Nat.le_refl _)
    have hk : k ≤ (lev node L (j + 1)).length := by rw [lev_length]; omega
    refine ⟨hk, ?_⟩
    have hS := low (R := lev node L (j + 1)) (S := L.take (b (j + 1)) ++ (prs node (lev node L j)).take (k - b (j + 1))) (T := L.drop (b (j + 1)) ++ (prs node (lev node L j)).drop (k - b (j + 1))) (lev_srt node L hL (j + 1)) (by
      refine (mrg_perm _ _).trans ?_
      obtain ⟨Q, hQ⟩ : ∃ Q, prs node (lev node L j) = Q := ⟨_, rfl⟩
      rw [hQ]
      conv => lhs; rw [← List.take_append_drop (b (j + 1)) L, ← List.take_append_drop (k - b (j + 1)) Q]
      rw [List.append_assoc, List.append_assoc]
      refine List.Perm.append_left _ ?_
      rw [← List.append_assoc, ← List.append_assoc]
      exact List.perm_append_comm.append_right _)
    rw [List.length_append, List.length_take, List.length_take, prs_length, show min (b (j + 1)) L.length + min (k - b (j + 1)) ((lev node L j).length / 2) = k by omega, tot_append, prs_tot node (·.1) (fun x y => rfl) _ _ i1] at hS
    omega
end
end Go.Proofs.YtciejmlhdmjajaaGreat
namespace Go.Proofs.YtciejmlhdmjajaaGreat
set_option linter.unusedVariables false
set_option linter.unusedSimpArgs false

section
variable {α : Type} (sym : α → Nat)
/-- How often a symbol is in a row of leaves. -/
def kap (l : List (Nat × α)) (s : Nat) : Nat := tot (fun y : Nat × α => if s = sym y.2 then 1 else 0) l
def dst (L : List (Nat × α)) : Prop := L.Pairwise (fun x y => sym x.2 ≠ sym y.2)
theorem kap_out (l : List (Nat × α)) (s : Nat) (h : ∀ y ∈ l, s ≠ sym y.2) : kap sym l s = 0 := tot_zero _ _ fun y hy => by rw [if_neg (h y hy)]
theorem kap_get : ∀ (L : List (Nat × α)) (a r : Nat) (x : Nat × α), dst sym L → L[r]? = some x → kap sym (L.take a) (sym x.2) = if r < a then 1 else 0
  | [], a, r, x, _, h => by simp at h
  | y :: L, 0, r, x, _, h => by simp [kap, tot]
  | y :: L, a + 1, 0, x, hd, h => by
    simp at h
    subst h
    have h1 := List.pairwise_cons.1 hd
    rw [List.take_succ_cons]
    have : kap sym (L.take a) (sym y.2) = 0 := kap_out sym _ _ fun z hz => h1.1 z (List.mem_of_mem_take hz)
    unfold kap at this ⊢
    simp only [tot, this]
    simp
  | y :: L, a + 1, r + 1, x, hd, h => by
    have h1 := List.pairwise_cons.1 hd
    have hx : L[r]? = some x := by simpa using h
    rw [List.take_succ_cons]
    have ih := kap_get L a r x h1.2 hx
    unfold kap at ih ⊢
    simp only [tot, ih]
    rw [if_neg (Ne.symm (h1.1 x (List.mem_of_getElem? hx)))]
    by_cases hr : r < a
    · rw [if_pos hr, if_pos (by omega)]
    · rw [if_neg hr, if_neg (by omega)]
theorem kap_pick (h : Nat × α → Nat) : ∀ (L : List (Nat × α)) (a : Nat), dst sym L → tot (fun x => h x * kap sym (L.take a) (sym x.2)) L = tot h (L.take a)
  | [], a, _ => by simp [tot]
  | y :: L, 0, _ => by rw [List.take_zero]; exact tot_zero _ _ fun x _ => by simp [kap, tot]
  | y :: L, a + 1, hd => by
    have h1 := List.pairwise_cons.1 hd
    have e := kap_get sym (y :: L) (a + 1) 0 y hd rfl
    rw [if_pos (by omega)] at e
    simp only [tot]
    rw [e, Nat.mul_one, List.take_succ_cons]
    simp only [tot]
    rw [← kap_pick h L a h1.2]
    congr 1
    refine tot_congr _ _ _ fun x hx => ?_
    unfold kap
    simp only [tot]
    rw [if_neg (Ne.symm (h1.1 x hx)), Nat.zero_add]

variable (node : α → α → α) (φ : α → Nat → Nat)
/-- A symbol's length: how often it is in the last row's first things. -/
def lenOf (L : List (Nat × α)) (j s : Nat) : Nat := tot (fun x => φ x.2 s) ((lev node L j).take (2 * L.length - 2))

variable (hφ : ∀ x y s, φ (node x y) s = φ x s + φ y s) (L : List (Nat × α)) (hs : ∀ x ∈ L, ∀ s, φ x.2 s = if s = sym x.2 then 1 else 0) (hL : srt L) (hd : dst sym L)
include hφ hs hL hd
omit hd in
theorem len_shape (j k : Nat) (hk : k ≤ (lev node L j).length) : ∃ a : Nat → Nat, (∀ i, i ≤ j → a i ≤ L.length) ∧ (∀ i, i < j → a i ≤ a (i + 1)) ∧
    (∀ s, tot (fun x => φ x.2 s) ((lev node L j).take k) = sumTo (fun i => kap sym (L.take (a i)) s) j) ∧ tot (·.1) ((lev node L j).take k) = sumTo (fun i => tot (·.1) (L.take (a i))) j ∧ sumTo (fun i => a i * 2 ^ i) j = k * 2 ^ j := by
  obtain ⟨a, a1, a2, a3, a4, _⟩ := shape node L hL j k hk
  refine ⟨a, a1, a2, fun s => ?_, a3 (·.1) (fun x y => rfl), a4⟩
  rw [a3 (fun x => φ x.2 s) (fun x y => hφ _ _ _)]
  exact sumTo_congr _ _ _ fun i _ => tot_congr _ _ _ fun x hx => hs x (List.mem_of_mem_take hx) s
/-- The lengths that package-merge finds. -/
theorem pm (j : Nat) (h2 : 2 ≤ L.length) (hr : L.length ≤ 2 ^ (j + 1)) :
    2 * L.length - 2 ≤ (lev node L j).length ∧
    (∀ x ∈ L, 1 ≤ lenOf node φ L j (sym x.2) ∧ lenOf node φ L j (sym x.2) ≤ j + 1) ∧
    (∀ s, (∀ x ∈ L, s ≠ sym x.2) → lenOf node φ L j s = 0) ∧
    (∀ x ∈ L, ∀ y ∈ L, x.1 < y.1 → lenOf node φ L j (sym y.2) ≤ lenOf node φ L j (sym x.2)) ∧
    tot (fun x => 2 ^ (j + 1 - lenOf node φ L j (sym x.2))) L = 2 ^ (j + 1) ∧
    ∀ ℓ : Nat → Nat, (∀ x ∈ L, 1 ≤ ℓ (sym x.2) ∧ ℓ (sym x.2) ≤ j + 1) → tot (fun x => 2 ^ (j + 1 - ℓ (sym x.2))) L = 2 ^ (j + 1) → tot (fun x => x.1 * lenOf node φ L j (sym x.2)) L ≤ tot (fun x => x.1 * ℓ (sym x.2)) L := by
  have hroom : 2 * L.length - 2 ≤ (lev node L j).length := by
    have := lev_room node L j 2 (by rw [Nat.pow_succ] at hr; omega)
    omega
  obtain ⟨a, a1, a2, a3, a4, a5⟩ := len_shape sym node φ hφ L hs hL j _ hroom
  have e0 : ∀ s, lenOf node φ L j s = sumTo (fun i => kap sym (L.take (a i)) s) j := a3
  have g1 : ∀ x ∈ L, (∀ i, i ≤ j → kap sym (L.take (a i)) (sym x.2) ≤ 1) ∧ ∀ i, i < j → kap sym (L.take (a i)) (sym x.2) ≤ kap sym (L.take (a (i + 1))) (sym x.2) := by
    intro x hx
    obtain ⟨r, hr⟩ := List.getElem?_of_mem hx
    refine ⟨fun i _ => ?_, fun i hi => ?_⟩
    · rw [kap_get sym L _ r x hd hr]; split <;> omega
    · rw [kap_get sym L _ r x hd hr, kap_get sym L _ r x hd hr]
      have := a2 i hi
      by_cases h : r < a i
      · rw [if_pos h, if_pos (by omega)]; exact Nat.le_refl _
      · rw [if_neg h]; exact Nat.zero_le _
  have g2 : ∀ x ∈ L, sumTo (fun i => kap sym (L.take (a i)) (sym x.2) * 2 ^ i) j + 2 ^ (j + 1 - lenOf node φ L j (sym x.2)) = 2 ^ (j + 1) ∧ lenOf node φ L j (sym x.2) ≤ j + 1 := by
    intro x hx
    rw [e0]
    exact sumTo_two _ j (g1 x hx).1 (g1 x hx).2
  have hk2 : (2 * L.length - 2) * 2 ^ j + 2 ^ (j + 1) = L.length * 2 ^ (j + 1) := by
    rw [Nat.pow_succ, Nat.mul_comm (2 ^ j) 2, ← Nat.mul_assoc, ← Nat.add_mul]
    congr 1; omega
  have g3 : tot (fun x => 2 ^ (j + 1 - lenOf node φ L j (sym x.2))) L = 2 ^ (j + 1) := by
    have h1 : tot (fun x => sumTo (fun i => kap sym (L.take (a i)) (sym x.2) * 2 ^ i) j + 2 ^ (j + 1 - lenOf node φ L j (sym x.2))) L = L.length * 2 ^ (j + 1) := by
      rw [← tot_const]
      exact tot_congr _ _ _ fun x hx => (g2 x hx).1
    rw [tot_add, ← sumTo_tot (fun (x : Nat × α) i => kap sym (L.take (a i)) (sym x.2) * 2 ^ i) L j] at h1
    have h3 : sumTo (fun i => tot (fun x : Nat × α => kap sym (L.take (a i)) (sym x.2) * 2 ^ i) L) j = sumTo (fun i => a i * 2 ^ i) j := sumTo_congr _ _ _ fun i hi => by
      rw [tot_mul]
      congr 1
      have := kap_pick sym (fun _ => 1) L (a i) hd
      simp only [Nat.one_mul] at this
      rw [this, tot_length, List.length_take]
      exact Nat.min_eq_left (a1 i hi)
    rw [h3, a5] at h1
    omega
  have gw : tot (fun x => x.1 * lenOf node φ L j (sym x.2)) L = tot (·.1) ((lev node L j).take (2 * L.length - 2)) := by
    rw [a4, tot_congr _ (fun x : Nat × α => sumTo (fun i => x.1 * kap sym (L.take (a i)) (sym x.2)) j) L (fun x _ => by rw [e0, sumTo_mul]), ← sumTo_tot]
    exact sumTo_congr _ _ _ fun i _ => kap_pick sym (fun x => x.1) L (a i) hd
  refine ⟨hroom, fun x hx => ⟨?_, (g2 x hx).2⟩, fun s hn => ?_, fun x hx y hy hxy => ?_, g3, fun ℓ hℓ hw => ?_⟩
  · rcases Nat.eq_zero_or_pos (lenOf node φ L j (sym x.2)) with h0 | h0
    · exfalso
      obtain ⟨r, hr⟩ := List.getElem?_of_mem hx
      have hrl := (List.getElem?_eq_some_iff.1 hr).1
      have h5 := congrArg (tot (fun x => 2 ^ (j + 1 - lenOf node φ L j (sym x.2)))) (List.take_append_drop r L)
      have hdr : L.drop r = x :: L.drop (r + 1) := by
        rw [List.drop_eq_getElem_cons hrl]
        congr 1
        exact (List.getElem?_eq_some_iff.1 hr).2
      rw [tot_append, hdr, g3] at h5
      simp only [tot, h0, Nat.sub_zero] at h5
      have hlen : (L.take r).length + (L.drop (r + 1)).length = L.length - 1 := by rw [List.length_take, List.length_drop]; omega
      have hp : ∀ l : List (Nat × α), l.length ≤ tot (fun x => 2 ^ (j + 1 - lenOf node φ L j (sym x.2))) l := fun l => by
        rw [← tot_length]; exact tot_le _ _ _ fun x _ => Nat.two_pow_pos _
      have := hp (L.take r)
      have := hp (L.drop (r + 1))
      omega
    · exact h0
  · rw [e0, sumTo_congr _ (fun _ => 0) j (fun i _ => kap_out sym _ _ fun y hy => hn y (List.mem_of_mem_take hy)), sumTo_const]; simp
  · obtain ⟨r, hr⟩ := List.getElem?_of_mem hx
    obtain ⟨q, hq⟩ := List.getElem?_of_mem hy
    have hrq : r ≤ q := by
      rcases Nat.lt_or_ge q r with h | h
      · have := srt_get hL hq hr (by omega); omega
      · exact h
    rw [e0, e0]
    refine sumTo_le _ _ _ fun i _ => ?_
    rw [kap_get sym L _ r x hd hr, kap_get sym L _ q y hd hq]
    by_cases h : q < a i
    · rw [if_pos h, if_pos (by omega)]; exact Nat.le_refl _
    · rw [if_neg h]; exact Nat.zero_le _
  · have hg : ∀ x ∈ L, sumTo (fun i => if j + 1 - i ≤ ℓ (sym x.2) then 1 else 0) j = ℓ (sym x.2) := by
      intro x hx
      obtain ⟨l1, l2⟩ := hℓ x hx
      have hgen : ∀ m, m ≤ j → sumTo (fun i => if j + 1 - i ≤ ℓ (sym x.2) then 1 else 0) m = m + 1 + ℓ (sym x.2) - (j + 1) := by
        intro m
        induction m with
        | zero => intro _; simp only [sumTo]; split <;> omega
        | succ m ih => intro hm; have := ih (by omega); simp only [sumTo, this]; split <;> omega
      rw [hgen j (Nat.le_refl _)]; omega
    have hb : sumTo (fun i => (L.filter fun x => decide (j + 1 - i ≤ ℓ (sym x.2))).length * 2 ^ i) j = (2 * L.length - 2) * 2 ^ j := by
      have h1 : tot (fun x => sumTo (fun i => (if j + 1 - i ≤ ℓ (sym x.2) then 1 else 0) * 2 ^ i) j + 2 ^ (j + 1 - ℓ (sym x.2))) L = L.length * 2 ^ (j + 1) := by
        rw [← tot_const]
        refine tot_congr _ _ _ fun x hx => ?_
        have := (sumTo_two (fun i => if j + 1 - i ≤ ℓ (sym x.2) then 1 else 0) j (fun i _ => by split <;> omega) (fun i _ => by split <;> split <;> omega)).1
        rw [hg x hx] at this
        exact this
      rw [tot_add, hw, ← sumTo_tot (fun (x : Nat × α) i => (if j + 1 - i ≤ ℓ (sym x.2) then 1 else 0) * 2 ^ i) L j] at h1
      have h3 : sumTo (fun i => (L.filter fun x => decide (j + 1 - i ≤ ℓ (sym x.2))).length * 2 ^ i) j = sumTo (fun i => tot (fun x : Nat × α => (if j + 1 - i ≤ ℓ (sym x.2) then 1 else 0) * 2 ^ i) L) j := sumTo_congr _ _ _ fun i _ => by
        rw [tot_mul, ← tot_length, tot_filter]
        congr 1
        exact tot_congr _ _ _ fun x _ => by simp
      rw [h3]
      omega
    obtain ⟨_, h6⟩ := best_row node L hL j _ (fun i => (L.filter fun x => decide (j + 1 - i ≤ ℓ (sym x.2))).length) (fun i _ => List.length_filter_le _ _) hb
    rw [gw]
    refine Nat.le_trans h6 ?_
    have e7 : tot (fun x => x.1 * ℓ (sym x.2)) L = sumTo (fun i => tot (fun x : Nat × α => x.1 * if j + 1 - i ≤ ℓ (sym x.2) then 1 else 0) L) j := by
      rw [sumTo_tot (fun (x : Nat × α) i => x.1 * if j + 1 - i ≤ ℓ (sym x.2) then 1 else 0) L j]
      exact tot_congr _ _ _ fun x hx => by rw [← sumTo_mul, hg x hx]
    rw [e7]
    refine sumTo_le _ _ _ fun i _ => ?_
    refine Nat.le_trans (low (T := L.filter fun x => !decide (j + 1 - i ≤ ℓ (sym x.2))) hL (List.filter_append_perm _ _).symm) ?_
    rw [tot_filter]
    exact tot_le _ _ _ fun x _ => by simp only [decide_eq_true_eq]; split <;> simp
end
end Go.Proofs.YtciejmlhdmjajaaGreat
namespace Go.Proofs.YtciejmlhdmjajaaGreat
open Go.RowKit
set_option linter.unusedVariables false
set_option linter.unusedSimpArgs false

/-- The packages of a row. -/
def pairs (A : Nat → Nat × PT) (k : Nat) : Nat × PT := ((A (2 * k)).1 + (A (2 * k + 1)).1, .node (A (2 * k)).2 (A (2 * k + 1)).2)
/-- Two rows in one, in order. -/
def Stepped (n : Nat) (L A : Nat → Nat × PT) (r : Nat) (A' : Nat → Nat × PT) : Prop := ∃ τ, Shuf 0 (n + r / 2) id τ ∧ SortedS (fun k => (if k < n then L k else pairs A (k - n)).1) τ 0 (n + r / 2) ∧ ∀ k, k < n + r / 2 → A' k = if τ k < n then L (τ k) else pairs A (τ k - n)

/-- The rows of the levels: level 1 has the leaves alone. -/
inductive Lev (n : Nat) (L : Nat → Nat × PT) : Nat → Nat → (Nat → Nat × PT) → Prop
  | one : Lev n L 0 n L
  | more (j r : Nat) (A A' : Nat → Nat × PT) : Lev n L j r A → Stepped n L A r A' → Lev n L (j + 1) (n + r / 2) A'

/-- Pairs by the first, then by the second. -/
def lexB (a b : Nat × Nat) : Bool := decide (a.1 < b.1 ∨ a.1 = b.1 ∧ a.2 ≤ b.2)
theorem lexB_trans (a b c : Nat × Nat) : lexB a b = true → lexB b c = true → lexB a c = true := by
  unfold lexB; simp only [decide_eq_true_eq]; omega
theorem lexB_total (a b : Nat × Nat) : (lexB a b || lexB b a) = true := by
  unfold lexB; simp only [Bool.or_eq_true, decide_eq_true_eq]; omega
theorem lexB_anti (a b : Nat × Nat) (h : lexB a b = true) (k : lexB b a = true) : a = b := by
  unfold lexB at h k
  simp only [decide_eq_true_eq] at h k
  exact Prod.ext (by omega) (by omega)
theorem lex_eq {l m : List (Nat × Nat)} (h : l.Perm m) (hl : l.Pairwise (fun a b => lexB a b = true)) (hm : m.Pairwise (fun a b => lexB a b = true)) : l = m :=
  List.Perm.eq_of_pairwise (fun a b _ _ => lexB_anti a b) hl hm h
theorem shuf_perm {n : Nat} {W τ : Nat → Nat} (h : Shuf 0 n id τ) (hs : SortedS W τ 0 n) : ((List.range n).map τ).Perm (List.range n) := by
  have hnd : ((List.range n).map τ).Nodup := by
    unfold List.Nodup
    rw [List.pairwise_map]
    refine List.Pairwise.imp_of_mem ?_ List.pairwise_lt_range
    intro i j hi hj hij he
    have := hs i j (Nat.zero_le _) hij (List.mem_range.1 hj)
    unfold ltS at this
    rw [he] at this
    omega
  rw [List.perm_ext_iff_of_nodup hnd List.nodup_range]
  intro k
  constructor
  · intro hk
    obtain ⟨i, hi, rfl⟩ := List.mem_map.1 hk
    obtain ⟨j, _, hj, e⟩ := h.2.1 i (Nat.zero_le _) (List.mem_range.1 hi)
    rw [e]; exact List.mem_range.2 hj
  · intro hk
    obtain ⟨j, _, hj, e⟩ := h.2.2 k (Nat.zero_le _) (List.mem_range.1 hk)
    exact List.mem_map.2 ⟨j, List.mem_range.2 hj, e.symm⟩
theorem sorted_lex {n : Nat} {W τ : Nat → Nat} (hs : SortedS W τ 0 n) : ((List.range n).map fun k => (W (τ k), τ k)).Pairwise (fun a b => lexB a b = true) := by
  rw [List.pairwise_map]
  refine List.Pairwise.imp_of_mem ?_ List.pairwise_lt_range
  intro i j hi hj hij
  have := hs i j (Nat.zero_le _) hij (List.mem_range.1 hj)
  unfold ltS at this
  unfold lexB
  simp only [decide_eq_true_eq]
  omega
theorem up_lex {a n : Nat} {W : Nat → Nat} (h : ∀ i j, i < j → j < n → W (a + i) ≤ W (a + j)) : ((List.range n).map fun k => (W (a + k), a + k)).Pairwise (fun a b => lexB a b = true) := by
  rw [List.pairwise_map]
  refine List.Pairwise.imp_of_mem ?_ List.pairwise_lt_range
  intro i j hi hj hij
  have := h i j hij (List.mem_range.1 hj)
  unfold lexB
  simp only [decide_eq_true_eq]
  omega
theorem stepped_list {α : Type} (X : Nat → Nat × α) (n m : Nat) (τ : Nat → Nat) (h : Shuf 0 (n + m) id τ) (hs : SortedS (fun k => (X k).1) τ 0 (n + m)) (h1 : ∀ i j, i < j → j < n → (X i).1 ≤ (X j).1) (h2 : ∀ i j, i < j → j < m → (X (n + i)).1 ≤ (X (n + j)).1) :
    (List.range (n + m)).map (fun k => X (τ k)) = mrg ((List.range n).map X) ((List.range m).map fun k => X (n + k)) := by
  have hT : (List.range (n + m)).map (fun k => ((X (τ k)).1, τ k)) = ((List.range n).map fun k => ((X k).1, k)).merge ((List.range m).map fun k => ((X (n + k)).1, n + k)) lexB := by
    refine lex_eq ?_ (sorted_lex hs) (List.pairwise_merge lexB_trans lexB_total _ _ ?_ (up_lex (W := fun k => (X k).1) h2))
    · refine List.Perm.trans ?_ (List.merge_perm_append lexB).symm
      have e : ((List.range n).map fun k => ((X k).1, k)) ++ ((List.range m).map fun k => ((X (n + k)).1, n + k)) = (List.range (n + m)).map fun k => ((X k).1, k) := by
        rw [List.range_add, List.map_append, List.map_map]; rfl
      rw [e]
      have := (shuf_perm h hs).map fun k => ((X k).1, k)
      rwa [List.map_map] at this
    · have := up_lex (a := 0) (n := n) (W := fun k => (X k).1) (by simpa using h1)
      simpa using this
  have hM := congrArg (List.map fun p : Nat × Nat => X p.2) hT
  rw [List.map_map] at hM
  rw [List.map_merge (s := leP)] at hM
  · rw [List.map_map, List.map_map] at hM
    exact hM
  · intro a ha b hb
    obtain ⟨i, hi, rfl⟩ := List.mem_map.1 ha
    obtain ⟨j, hj, rfl⟩ := List.mem_map.1 hb
    have := List.mem_range.1 hi
    unfold lexB leP
    simp only
    congr 1
    rw [eq_iff_iff]
    omega
theorem prs_map (A : Nat → Nat × PT) (r : Nat) : prs PT.node ((List.range r).map A) = (List.range (r / 2)).map (pairs A) := by
  apply List.ext_getElem?
  intro k
  by_cases hk : k < r / 2
  · rw [prs_get PT.node _ k (A (2 * k)) (A (2 * k + 1)) (by rw [List.getElem?_map, List.getElem?_range (by omega)]; rfl) (by rw [List.getElem?_map, List.getElem?_range (by omega)]; rfl), List.getElem?_map, List.getElem?_range hk]
    rfl
  · rw [List.getElem?_eq_none (by rw [prs_length]; simp; omega), List.getElem?_eq_none (by simp; omega)]
theorem srt_map {α : Type} {A : Nat → Nat × α} {r : Nat} (h : srt ((List.range r).map A)) (i j : Nat) (hij : i < j) (hj : j < r) : (A i).1 ≤ (A j).1 :=
  srt_get h (i := i) (j := j) (by rw [List.getElem?_map, List.getElem?_range (by omega)]; rfl) (by rw [List.getElem?_map, List.getElem?_range hj]; rfl) (by omega)
theorem Lev.list {n : Nat} {L : Nat → Nat × PT} (hL : srt ((List.range n).map L)) {j r : Nat} {A : Nat → Nat × PT} (h : Lev n L j r A) : (List.range r).map A = lev PT.node ((List.range n).map L) j := by
  induction h with
  | one => rfl
  | more j r A A' _ hst ih =>
    obtain ⟨τ, t1, t2, t3⟩ := hst
    rw [lev, ← ih, prs_map]
    have hsr : srt ((List.range r).map A) := by rw [ih]; exact lev_srt PT.node _ hL j
    have hps := prs_srt PT.node _ hsr
    rw [prs_map] at hps
    have e := stepped_list (fun k => if k < n then L k else pairs A (k - n)) n (r / 2) τ t1 t2 (fun i j hij hj => by simp only [if_pos hj, if_pos (show i < n by omega)]; exact srt_map hL i j hij hj) (fun i j hij hj => by
      simp only [if_neg (show ¬ n + i < n by omega), if_neg (show ¬ n + j < n by omega), show n + i - n = i by omega, show n + j - n = j by omega]
      exact srt_map hps i j hij hj)
    have e1 : (List.range (n + r / 2)).map A' = (List.range (n + r / 2)).map (fun k => if τ k < n then L (τ k) else pairs A (τ k - n)) := List.map_congr_left fun k hk => t3 k (List.mem_range.1 hk)
    rw [e1]
    refine e.trans ?_
    congr 1
    · exact List.map_congr_left fun k hk => by rw [if_pos (List.mem_range.1 hk)]
    · exact List.map_congr_left fun k _ => by rw [if_neg (by omega), show n + k - n = k by omega]
theorem Lev.len {n : Nat} {L : Nat → Nat × PT} (hL : srt ((List.range n).map L)) {j r : Nat} {A : Nat → Nat × PT} (h : Lev n L j r A) : (lev PT.node ((List.range n).map L) j).length = r := by
  rw [← h.list hL]; simp

/-- The counts that are, each with its symbol. -/
def cntL : Nat → List Int → List (Nat × Nat)
  | _, [] => []
  | s, c :: xs => if 0 < c then (c.toNat, s) :: cntL (s + 1) xs else cntL (s + 1) xs
theorem cntL_leafL : ∀ (xs : List Int) (s : Nat), (leafL s xs).map (fun t => (t.w, t.s)) = cntL s xs
  | [], s => rfl
  | c :: xs, s => by
    rw [leafL, cntL]
    by_cases h : 0 < c
    · rw [if_pos h, if_pos h, List.map_cons, cntL_leafL]
    · rw [if_neg h, if_neg h, cntL_leafL]
theorem cntL_mem : ∀ (xs : List Int) (s : Nat) (p : Nat × Nat), p ∈ cntL s xs ↔ ∃ i c, xs[i]? = some c ∧ 0 < c ∧ p = (c.toNat, s + i)
  | [], s, p => by simp [cntL]
  | c :: xs, s, p => by
    have ih := cntL_mem xs (s + 1) p
    have e : (∃ i d, (c :: xs)[i]? = some d ∧ 0 < d ∧ p = (d.toNat, s + i)) ↔ (0 < c ∧ p = (c.toNat, s)) ∨ ∃ i d, xs[i]? = some d ∧ 0 < d ∧ p = (d.toNat, s + 1 + i) := by
      constructor
      · rintro ⟨i, d, h1, h2, h3⟩
        cases i with
        | zero => simp at h1; subst h1; exact .inl ⟨h2, by simpa using h3⟩
        | succ i => exact .inr ⟨i, d, by simpa using h1, h2, by rw [h3]; congr 1; omega⟩
      · rintro (⟨h1, h2⟩ | ⟨i, d, h1, h2, h3⟩)
        · exact ⟨0, c, rfl, h1, by simpa using h2⟩
        · exact ⟨i + 1, d, by simpa using h1, h2, by rw [h3]; congr 1; omega⟩
    rw [e, ← ih, cntL]
    by_cases h : 0 < c
    · rw [if_pos h, List.mem_cons]; simp [h]
    · rw [if_neg h]; simp [h]
theorem cntL_up : ∀ (xs : List Int) (s : Nat), (cntL s xs).Pairwise (fun a b => a.2 < b.2)
  | [], s => List.Pairwise.nil
  | c :: xs, s => by
    rw [cntL]
    by_cases h : 0 < c
    · rw [if_pos h]
      refine List.pairwise_cons.2 ⟨fun b hb => ?_, cntL_up xs (s + 1)⟩
      obtain ⟨i, d, _, _, rfl⟩ := (cntL_mem xs (s + 1) b).1 hb
      simp only; omega
    · rw [if_neg h]; exact cntL_up xs (s + 1)
/-- The symbols that count, by rising counts. -/
def sortC (l : List Int) : List (Nat × Nat) := (cntL 0 l).mergeSort lexB
theorem sortC_perm (l : List Int) : (sortC l).Perm (cntL 0 l) := List.mergeSort_perm _ _
theorem sortC_lex (l : List Int) : (sortC l).Pairwise (fun a b => lexB a b = true) := List.pairwise_mergeSort lexB_trans lexB_total _
theorem sortC_of {l : List Int} {S : List (Nat × Nat)} (h : S.Perm (cntL 0 l)) (hs : S.Pairwise (fun a b => lexB a b = true)) : S = sortC l := lex_eq (h.trans (sortC_perm l).symm) hs (sortC_lex l)
theorem sortC_length (l : List Int) : (sortC l).length = (leafL 0 l).length := by
  rw [(sortC_perm l).length_eq, ← cntL_leafL, List.length_map]
/-- A leaf of the first row. -/
def leafP (p : Nat × Nat) : Nat × PT := (p.1, .leaf p.2)
def symP : PT → Nat
  | .leaf s => s
  | .node _ _ => 0
theorem leafs_of {l : List Int} {τ : Nat → Nat} (h : Shuf 0 (leafL 0 l).length id τ) (hs : SortedS (fun k => (rowF (leafL 0 l) k).w) τ 0 (leafL 0 l).length) :
    (List.range (leafL 0 l).length).map (fun k => ((rowF (leafL 0 l) (τ k)).w, (rowF (leafL 0 l) (τ k)).s)) = sortC l := by
  have hrow : (List.range (leafL 0 l).length).map (rowF (leafL 0 l)) = leafL 0 l := by
    apply List.ext_getElem?
    intro i
    by_cases hi : i < (leafL 0 l).length
    · simp [hi, rowF]
    · rw [List.getElem?_eq_none (by simp; omega), List.getElem?_eq_none (by omega)]
  refine sortC_of ?_ ?_
  · rw [← cntL_leafL]
    have h1 := (shuf_perm h hs).map fun k => ((rowF (leafL 0 l) k).w, (rowF (leafL 0 l) k).s)
    rw [List.map_map] at h1
    have h2 := congrArg (List.map fun t : Th => (t.w, t.s)) hrow
    rw [List.map_map] at h2
    rw [← h2]
    exact h1
  · rw [List.pairwise_map]
    refine List.Pairwise.imp_of_mem ?_ List.pairwise_lt_range
    intro i j hi hj hij
    have h3 := hs i j (Nat.zero_le _) hij (List.mem_range.1 hj)
    unfold ltS at h3
    unfold lexB
    simp only [decide_eq_true_eq]
    rcases h3 with h3 | ⟨h3, h4⟩
    · exact .inl h3
    · refine .inr ⟨h3, ?_⟩
      have hj' : τ j < (leafL 0 l).length := shuf_lt h j (List.mem_range.1 hj)
      have hup := cntL_up l 0
      rw [← cntL_leafL, List.pairwise_map, List.pairwise_iff_getElem] at hup
      have := hup (τ i) (τ j) (by omega) hj' h4
      unfold rowF
      rw [List.getD_eq_getElem?_getD, List.getD_eq_getElem?_getD, List.getElem?_eq_getElem (by omega), List.getElem?_eq_getElem hj']
      simp only [Option.getD_some]
      omega
theorem sortC_srt (l : List Int) : srt ((sortC l).map leafP) := by
  unfold srt
  rw [List.pairwise_map]
  refine (sortC_lex l).imp fun {a b} h => ?_
  unfold lexB at h
  simp only [decide_eq_true_eq] at h
  simp only [leafP]; omega
theorem sortC_dst (l : List Int) : dst symP ((sortC l).map leafP) := by
  unfold dst
  rw [List.pairwise_map]
  have h : (cntL 0 l).Pairwise (fun a b => a.2 ≠ b.2) := (cntL_up l 0).imp fun h => Nat.ne_of_lt h
  exact (sortC_perm l).symm.pairwise h fun h => Ne.symm h
theorem sortC_mem (l : List Int) (p : Nat × Nat) : p ∈ sortC l ↔ ∃ c, l[p.2]? = some c ∧ 0 < c ∧ p.1 = c.toNat := by
  rw [(sortC_perm l).mem_iff, cntL_mem]
  constructor
  · rintro ⟨i, c, h1, h2, rfl⟩; exact ⟨c, by simpa using h1, h2, rfl⟩
  · rintro ⟨c, h1, h2, h3⟩; exact ⟨p.2, c, h1, h2, Prod.ext h3 (by simp)⟩
theorem occ_leafP (l : List (Nat × Nat)) : ∀ x ∈ l.map leafP, ∀ s, occ x.2 s = if s = symP x.2 then 1 else 0 := by
  intro x hx s
  obtain ⟨p, _, rfl⟩ := List.mem_map.1 hx
  rfl
/-- How often a symbol is in the first k things of a row. -/
def sumOcc (A : Nat → Nat × PT) : Nat → Nat → Nat
  | 0, _ => 0
  | k + 1, s => sumOcc A k s + occ (A k).2 s
theorem sumOcc_tot (A : Nat → Nat × PT) (k s : Nat) : sumOcc A k s = tot (fun x : Nat × PT => occ x.2 s) ((List.range k).map A) := by
  induction k with
  | zero => rfl
  | succ k ih => rw [List.range_succ, List.map_append, tot_append, ← ih]; simp [sumOcc, tot]
/-- A row's symbols: as many as there are levels, and none that does not count. -/
theorem Lev.occs {l : List Int} {n : Nat} {L : Nat → Nat × PT} (hL : (List.range n).map L = (sortC l).map leafP) {j r : Nat} {A : Nat → Nat × PT} (h : Lev n L j r A) (k : Nat) (hk : k ≤ r) (s : Nat) :
    sumOcc A k s = tot (fun x : Nat × PT => occ x.2 s) ((lev PT.node ((sortC l).map leafP) j).take k) ∧ sumOcc A k s ≤ j + 1 ∧ (0 < sumOcc A k s → s < l.length) := by
  have hsr : srt ((List.range n).map L) := by rw [hL]; exact sortC_srt l
  have e := h.list hsr
  rw [hL] at e
  have e1 : sumOcc A k s = tot (fun x : Nat × PT => occ x.2 s) ((lev PT.node ((sortC l).map leafP) j).take k) := by
    rw [sumOcc_tot, ← e, ← List.map_take, List.take_range, Nat.min_eq_left hk]
  have hlen : k ≤ (lev PT.node ((sortC l).map leafP) j).length := by rw [← e]; simpa using hk
  obtain ⟨a, a1, a2, a3, _, _⟩ := len_shape symP PT.node occ (fun _ _ _ => rfl) ((sortC l).map leafP) (occ_leafP _) (sortC_srt l) j k hlen
  refine ⟨e1, ?_, fun hpos => ?_⟩
  · rw [e1, a3]
    have hone : ∀ m, kap symP (((sortC l).map leafP).take m) s ≤ 1 := by
      intro m
      by_cases hex : ∃ x ∈ (sortC l).map leafP, s = symP x.2
      · obtain ⟨x, hx, rfl⟩ := hex
        obtain ⟨q, hq⟩ := List.getElem?_of_mem hx
        rw [kap_get symP _ m q x (sortC_dst l) hq]
        split <;> omega
      · rw [kap_out symP _ s fun y hy he => hex ⟨y, List.mem_of_mem_take hy, he⟩]; omega
    refine Nat.le_trans (sumTo_le _ (fun _ => 1) j fun i _ => hone _) ?_
    rw [sumTo_const]; omega
  · rw [e1, a3] at hpos
    rcases Nat.lt_or_ge s l.length with h1 | h1
    · exact h1
    · exfalso
      rw [sumTo_congr _ (fun _ => 0) j (fun i _ => kap_out symP _ s fun y hy he => by
        obtain ⟨p, hp, rfl⟩ := List.mem_map.1 (List.mem_of_mem_take hy)
        obtain ⟨c, hc, _⟩ := (sortC_mem l p).1 hp
        have := (List.getElem?_eq_some_iff.1 hc).1
        simp only [leafP, symP] at he
        omega), sumTo_const] at hpos
      simp at hpos
end Go.Proofs.YtciejmlhdmjajaaGreat
namespace Go.Proofs.YtciejmlhdmjajaaGreat
open Go.RowKit
set_option linter.unusedVariables false
set_option linter.unusedSimpArgs false

set_option maxRecDepth 100000 in
set_option maxHeartbeats 1600000 in
theorem len_any (x : Nat) (w : World) (h : x < 2 ^ 64) :
    Calls Tryz.prog 88 #[.int .u64 x] w fun e w' => e = .returned (.int .i64 (bl x : Nat)) ∧ w' = w := by
  have HC := Lib.hid (len64_any x w h)
  go_enter Tryz.func88, Tryz.ntmps88
  go_wp2_with fail
  refine HC.out.mono ?_
  rintro e w1 ⟨rfl, rfl⟩
  go_wp2_with fail
  go_ret
  exact ⟨rfl, rfl⟩
/-- The least limit with which n symbols can have codes. -/
def needN (n : Int) : Nat := if n < 1 then 0 else if n < 3 then 1 else bl (n - 1).toNat
set_option maxRecDepth 100000 in
set_option maxHeartbeats 1600000 in
theorem needs_any (n : Int) (w : World) (h0 : -9223372036854775808 ≤ n) (h1 : n ≤ 9223372036854775807) :
    Calls Tryz.prog 60 #[.int .i64 n] w fun e w' => e = .returned (.int .i64 (needN n : Nat)) ∧ w' = w := by
  by_cases ha : n < 1
  · have HE := Lib.hid (show needN n = 0 by unfold needN; rw [if_pos ha])
    go_enter Tryz.func60, Tryz.ntmps60
    go_wp2_with fail
    go_ret
    rw [HE.out]
    exact ⟨rfl, rfl⟩
  · by_cases hb : n < 3
    · have HE := Lib.hid (show needN n = 1 by unfold needN; rw [if_neg ha, if_pos hb])
      have ha' : 1 ≤ n := by omega
      clear ha
      go_enter Tryz.func60, Tryz.ntmps60
      go_wp2_with fail
      go_ret
      rw [HE.out]
      exact ⟨rfl, rfl⟩
    · obtain ⟨x, hx⟩ : ∃ x : Nat, (n - 1).toNat = x := ⟨_, rfl⟩
      have ex : n - 1 = (x : Int) := by omega
      have HE := Lib.hid (show needN n = bl x by unfold needN; rw [if_neg ha, if_neg hb, hx])
      have HC := Lib.hid (len_any x w (by omega))
      have hx1 : (x : Int) ≤ 9223372036854775807 := by omega
      have hb' : 3 ≤ n := by omega
      clear ha hb hx
      go_enter Tryz.func60, Tryz.ntmps60
      go_wp2_with fail
      refine HC.out.mono ?_
      rintro e w1 ⟨rfl, rfl⟩
      go_wp2_with fail
      go_ret
      rw [HE.out]
      exact ⟨rfl, rfl⟩
end Go.Proofs.YtciejmlhdmjajaaGreat
namespace Go.Proofs.YtciejmlhdmjajaaGreat
open Go.RowKit
set_option linter.unusedVariables false
set_option linter.unusedSimpArgs false

set_option maxHeartbeats 400000 in
/-- 'append(row, x..)' at a step of a region that draws, the x just put into a new block. -/
theorem step_push {P : Program} (B : Nat) (W w0 : World) {ops : Array Oper} {o : Oper} {a : Act} {K : Act → World → Prop} {Q : Exit → Act → World → Prop} {X : Prop} (hgd : o.guard = none) (s x : Operand) (t : TypeId)
    (ho : o.op = .call { callee := .builtin .append, args := #[s, x], argTypes := #[t, t] })
    (e : TypeId) (size bytes : Nat) (E : Elem P t e size bytes) (v : Value) (n : Nat) (xs : List Value) (hs : a.eval s = v) (hown : Hid (w0.ownsRow B e size v n xs)) (hB : Hid (Below B W w0)) (hBs : B ≤ w0.heap.size)
    (cs : Array Value) (N m c : Nat) (hx : a.eval x = .slice (some ⟨N, 0, none⟩) m c) (hN : w0.heap[N]? = some (.cells cs e (0, 0))) (hl : cs.size = m * size) (h1 : cs.toList.all Value.oneCell' = true) (hm : 0 < m)
    (h63 : n + m ≤ 9223372036854775807) (hbytes : (n + m) * bytes ≤ 140737488355328)
    (h : ∀ g cap w', Hid (w'.ownsRow B e size (.slice (some ⟨g, 0, none⟩) (n + m) cap) (n + m) (xs ++ cs.toList) ∧ w0.grownBy w' v.ownBlock ∧ Below B W w' ∧ B ≤ g) → K (a.put o.dst (.slice (some ⟨g, 0, none⟩) (n + m) cap)) w') :
    if Region.wanted o (yielded ops a.tmps) = true then Oper.wp P o a w0 K Q else X := by
  obtain ⟨ht, i, z, hi, hz, hsz, hby, hzs, hpos⟩ := E
  refine step_append_lies _ hgd s x t ho B e i z size bytes ht hi hz hsz hby hzs hpos v n xs hs hown.out ⟨N, 0, none⟩ m c cs.toList hx (by simpa using hl) (World.news_of_block hN) (fun u hu => List.all_eq_true.1 h1 u hu) hm (by unfold maxLen; omega) hbytes hBs _ rfl ?_
  intro g cap w' k1 k2 k3 k4
  exact h g cap w' (Lib.hid ⟨k1, k2, below_grown hB.out k2 hBs (fun g' hg' => (hown.out.lt g' hg').1), (k1.lt g rfl).1⟩)
/-- A row of weights and what they are weights of, in memory. -/
def Rowm (w : World) (gl g n : Nat) (A : Nat → Nat × PT) : Prop := ∃ F, Trow w g n F ∧ ∀ k, k < n → (F k).w = (A k).1 ∧ Tree w gl (A k).2 (F k)
theorem Rowm.to {w w' : World} {gl g n : Nat} {A : Nat → Nat × PT} (h : Rowm w gl g n A) (f : Fr [gl] w w') (hg : g ≠ gl) : Rowm w' gl g n A := by
  obtain ⟨F, h1, h2⟩ := h
  exact ⟨F, h1.to f (by simpa using hg), fun k hk => ⟨(h2 k hk).1, Tree.to f _ _ (h2 k hk).2⟩⟩
/-- Two things' cells. -/
def Six (g p q xw xs : Nat) (xt : Option Addr) (yw ys : Nat) (yt : Option Addr) (w : World) : Prop :=
  w.cell? ⟨g, p * 3, none⟩ = some (.int .i64 (xw : Int)) ∧ w.cell? ⟨g, p * 3 + 1, none⟩ = some (.int .i64 (xs : Int)) ∧ w.cell? ⟨g, p * 3 + 2, none⟩ = some (.pointer xt) ∧ w.cell? ⟨g, q * 3, none⟩ = some (.int .i64 (yw : Int)) ∧ w.cell? ⟨g, q * 3 + 1, none⟩ = some (.int .i64 (ys : Int)) ∧ w.cell? ⟨g, q * 3 + 2, none⟩ = some (.pointer yt)
theorem Six.to {g p q xw xs : Nat} {xt : Option Addr} {yw ys : Nat} {yt : Option Addr} {w w' : World} (h : Hid (g < w.heap.size ∧ Six g p q xw xs xt yw ys yt w)) (b : Below w.heap.size w w') : Six g p q xw xs xt yw ys yt w' := by
  obtain ⟨h0, h1, h2, h3, h4, h5, h6⟩ := h.out
  unfold Six
  rw [b.cell (p := ⟨g, p * 3, none⟩) h0, b.cell (p := ⟨g, p * 3 + 1, none⟩) h0, b.cell (p := ⟨g, p * 3 + 2, none⟩) h0, b.cell (p := ⟨g, q * 3, none⟩) h0, b.cell (p := ⟨g, q * 3 + 1, none⟩) h0, b.cell (p := ⟨g, q * 3 + 2, none⟩) h0]
  exact ⟨h1, h2, h3, h4, h5, h6⟩
/-- What holds at the head of a round of the inner loop: m packages are made. -/
def InnerR (wo : World) (gl r : Nat) (A : Nat → Nat × PT) (v10 v11 : Value) (wr : World) : Prop :=
  ∃ (m : Nat) (vv : Value) (G : Nat → Th), vv = v10 ∧ v11 = .int .i64 ((2 * m : Nat) : Int) ∧ 2 * m ≤ r ∧ wr.ownsRow wo.heap.size 119 3 v10 m ((List.range m).flatMap fun k => Te (G k)) ∧ (∀ k, k < m → (G k).w = (pairs A k).1 ∧ Tree wr gl (pairs A k).2 (G k)) ∧ Below wo.heap.size wo wr
/-- What holds at the head of a round of the last loop: k things are met. -/
def LastR (w : World) (gl b1 b2 gr nl r K : Nat) (A : Nat → Nat × PT) (v104 : Value) (wr : World) : Prop :=
  ∃ k : Nat, v104 = .int .i64 (k : Int) ∧ k ≤ K ∧ Rowm wr gl gr r A ∧ Meets wr b1 b2 gl nl nl ∧ Nrow wr gl 5 .u8 nl (sumOcc A k) ∧ Fr [] w wr
/-- The lengths that counts have. -/
def lensN (l : List Int) (m s : Nat) : Nat := lenOf PT.node occ ((sortC l).map leafP) (m - 1) s
/-- What holds at the head of a round of the outer loop: the row of level j + 1 is made. -/
def OuterR (w : World) (l : List Int) (limit : Int) (n gl b1 g : Nat) (L : Nat → Nat × PT) (v9 v56 : Value) (wr : World) : Prop :=
  ∃ (j r gr cr : Nat) (A : Nat → Nat × PT), v9 = .slice (some ⟨gr, 0, none⟩) r cr ∧ v56 = .int .i64 (j : Int) ∧ (j : Int) ≤ limit - 1 ∧ 2 ≤ r ∧ r ≤ 2 * n ∧ r ≤ cr ∧ Lev n L j r A ∧ Rowm wr gl gr r A ∧ Rowm wr gl g n L ∧ (∀ k, k < r → (A k).1 ≤ 2 ^ (30 + j)) ∧ gr ≠ gl ∧ gr ≠ b1 ∧ wr.heap[b1]? = some (.cells #[.slice (some ⟨gl, 0, none⟩) l.length l.length] 36 (0, 0)) ∧ Nrow wr gl 5 .u8 l.length (fun _ => 0) ∧ Fr [] w wr
theorem leafL_two : ∀ (xs : List Int) (s : Nat), ∀ t ∈ leafL s xs, t.two = none
  | [], s, t, ht => by simp [leafL] at ht
  | x :: xs, s, t, ht => by
    rw [leafL] at ht
    split at ht
    · rcases List.mem_cons.1 ht with rfl | h1
      · rfl
      · exact leafL_two xs (s + 1) t h1
    · exact leafL_two xs (s + 1) t ht
theorem rowF_two (xs : List Int) (k : Nat) : (rowF (leafL 0 xs) k).two = none := by
  unfold rowF
  rw [List.getD_eq_getElem?_getD]
  cases hk : (leafL 0 xs)[k]? with
  | none => rfl
  | some t => exact leafL_two xs 0 t (List.mem_of_getElem? hk)
theorem need_room {n k : Nat} (h : needN (n : Int) ≤ k) : n ≤ 2 ^ k := by
  unfold needN at h
  by_cases h1 : (n : Int) < 1
  · have : n = 0 := by omega
    subst this; exact Nat.zero_le _
  · rw [if_neg h1] at h
    by_cases h3 : (n : Int) < 3
    · rw [if_pos h3] at h
      have : 2 ^ 1 ≤ 2 ^ k := Nat.pow_le_pow_right (by decide) h
      omega
    · rw [if_neg h3] at h
      have := (bl_le _ k).1 h
      omega
theorem SortedS.weights {W V σ : Nat → Nat} {n : Nat} (h : SortedS W σ 0 n) (hs : ∀ k, k < n → σ k < n) (e : ∀ k, k < n → V k = W k) : SortedS V σ 0 n := by
  intro i j h0 h1 h2
  have := h i j h0 h1 h2
  unfold ltS at this ⊢
  rw [e _ (hs i (by omega)), e _ (hs j h2)]
  exact this
set_option maxRecDepth 2000000 in
set_option maxHeartbeats 12800000 in
theorem lens_good (a : Option Addr) (c : Nat) (l : List Int) (limit : Int) (w : World) (hs : SlOf (Zn .i64) 1 w a l) (hl : l.length ≤ 320) (hgood : ¬ badC l) (h1 : 1 ≤ limit) (h2 : limit ≤ 15) (h3 : (needN (leafL 0 l).length : Int) ≤ limit) (hn2 : 2 ≤ (leafL 0 l).length) :
    Calls Tryz.prog 38 #[.slice a l.length c, .int .i64 limit] w fun e w' => ∃ gl, e = .returned (.tuple #[.slice (some ⟨gl, 0, none⟩) l.length l.length, .int .i64 0]) ∧ w.heap.size ≤ gl ∧ Nrow w' gl 5 .u8 l.length (lensN l limit.toNat) ∧ Fr [] w w' := by
  have hl1 : (l.length : Int) ≤ 320 := by omega
  have HC := Lib.hid (leaves_any a c l w hs (by omega))
  obtain ⟨n, hn⟩ : ∃ n, (leafL 0 l).length = n := ⟨_, rfl⟩
  have hnl := leafL_len l 0
  rw [hn] at h3 hn2 hnl
  obtain ⟨nd, hnd⟩ : ∃ nd, needN (n : Int) = nd := ⟨_, rfl⟩
  rw [hnd] at h3
  have HN := Lib.hid (fun W => needs_any (n : Int) W (by omega) (by omega))
  rw [hnd] at HN
  have hn3 : 2 ≤ (n : Int) := by omega
  have hn4 : (n : Int) ≤ 320 := by omega
  have hd1 : decide (limit < 1) = false := by simp; omega
  have hd2 : decide (15 < limit) = false := by simp; omega
  have hd3 : decide (limit < (nd : Int)) = false := by simp; omega
  have hd4 : decide ((n : Int) < 2) = false := by simp; omega
  have hd5 : ((n : Int) == 1) = false := by rw [beq_eq_false_iff_ne]; omega
  have HS := Lib.hid (And.intro hs (And.intro hgood (And.intro hn hnd)))
  clear hs hgood hl hn hnd hn2 hnl
  go_enter Tryz.func38, Tryz.ntmps38
  go_wp2_with fail
  refine HC.out.mono ?_
  rintro e w1 ⟨hf1, ⟨hb, _⟩ | ⟨_, v, rfl, hv⟩⟩
  · exact absurd hb HS.out.2.1
  rcases hv with ⟨rfl, hnil⟩ | ⟨g, cap, τ, rfl, hge, hcap, hT, hsh, hso⟩
  · have := HS.out.2.2.1
    rw [hnil] at this
    simp at this
    omega
  rw [HS.out.2.2.1] at hT hsh hso hcap ⊢
  have H1 := Lib.hid (And.intro hf1 (And.intro hge (And.intro hT (And.intro hsh (And.intro hso hcap)))))
  clear hf1 hge hT hsh hso hcap
  go_wp2_with fail
  refine (HN.out _).mono ?_
  rintro e w2 ⟨rfl, hw⟩
  replace hw := hw.symm
  subst hw
  have hmk := run_make_bytes w1 l.length (by omega)
  obtain ⟨gl, hgl⟩ : ∃ gl, gl = w1.heap.size := ⟨_, rfl⟩
  obtain ⟨b1, hb1⟩ : ∃ b1, b1 = w1.heap.size + 1 := ⟨_, rfl⟩
  obtain ⟨L, hL⟩ : ∃ L : Nat → Nat × PT, L = fun k => ((rowF (leafL 0 l) (τ k)).w, .leaf (rowF (leafL 0 l) (τ k)).s) := ⟨_, rfl⟩
  have hLw : ∀ k, (L k).1 ≤ 1073741824 := fun k => by
    rw [hL]
    exact rowF_w _ _ (leafL_w l 0 fun x hx => by
      have := HS.out.2.1
      unfold badC at this
      rcases Int.lt_or_le 1073741824 x with h | h
      · exact absurd (.inr ⟨x, hx, .inr h⟩) this
      · exact h) _
  have HL := Lib.hid (And.intro hgl (And.intro hb1 (And.intro hL hLw)))
  clear hgl hb1 hL hLw
  go_wp2_with fail
  go_loopw [9, 10, 11, 56] (fun v9 _ _ v56 wr => OuterR w l limit n gl b1 g L v9 v56 wr) (fun _ _ _ v56 _ => 16 - (intOf v56).toNat)
  case atStart =>
    obtain ⟨hf1, hge, hT, hsh, hso, hcap⟩ := H1.out
    obtain ⟨hgl, hb1, hL, hLw⟩ := HL.out
    have hA0 := Fr.alloc [] w1 (.cells (Lib.byteCells (List.replicate l.length 0)).toArray 5)
    have hR1 : Rowm w1 gl g n L := by
      refine ⟨_, hT, fun k _ => ?_⟩
      rw [hL]
      exact ⟨rfl, rowF_two l _, rfl⟩
    have hA1 := hA0.trans (Fr.alloc [] _ (.cells #[.slice (some ⟨w1.heap.size, 0, none⟩) l.length l.length] 36))
    have hg1 : g < w1.heap.size := hT.lt
    have hRA : Rowm ((w1.alloc (.cells (Lib.byteCells (List.replicate l.length 0)).toArray 5)).alloc (.cells #[.slice (some ⟨w1.heap.size, 0, none⟩) l.length l.length] 36)) gl g n L := hR1.to hA1.nil (by omega)
    have hN := new_of (w1.alloc (.cells (Lib.byteCells (List.replicate l.length 0)).toArray 5)) (.cells #[.slice (some ⟨w1.heap.size, 0, none⟩) l.length l.length] 36)
    rw [show (w1.alloc (.cells (Lib.byteCells (List.replicate l.length 0)).toArray 5)).heap.size = w1.heap.size + 1 from Array.size_push _] at hN
    have hZ := (Fr.alloc [] _ (.cells #[.slice (some ⟨w1.heap.size, 0, none⟩) l.length l.length] 36)).blk (new_of w1 (.cells (Lib.byteCells (List.replicate l.length 0)).toArray 5)) (by simp)
    subst hgl
    subst hb1
    refine ⟨0, n, g, cap, L, rfl, rfl, by omega, by omega, by omega, hcap, .one, hRA, hRA, fun k _ => Nat.le_trans (hLw k) (by decide), by omega, by omega, hN, ?_, hf1.trans hA1⟩
    unfold Nrow
    rw [hZ]
    congr 2
    apply Array.ext'
    apply List.ext_getElem?
    intro i
    by_cases hi : i < l.length
    · simp [Lib.byteCells, hi]
    · simp [Lib.byteCells, hi]
  case round =>
    obtain ⟨j, r, gr, cr, A, rfl, rfl, hj, hr2, hrn, hrc, hlev, hR, hL, hw, hgr, hgb, hvar, hlens, hf⟩ := hrel
    by_cases hjl : (j : Int) < limit - 1
    · have hri : (r : Int) ≤ 640 := by omega
      have hr2' : 2 ≤ (r : Int) := by omega
      have HR := Lib.hid (And.intro hR (And.intro hlev (And.intro hL (And.intro hw (And.intro hgr (And.intro hgb (And.intro hvar (And.intro hlens hf))))))))
      clear hR hlev hL hw hgr hgb hvar hlens hf
      go_wp2_with fail
      obtain ⟨wo, hwo⟩ : ∃ wo, wo = wr := ⟨wr, rfl⟩
      subst hwo
      go_loopw [10, 11] (fun v10 v11 wr => InnerR wo gl r A v10 v11 wr) (fun _ v11 _ => r - (intOf v11).toNat)
      case atStart => exact ⟨0, _, fun _ => th0, rfl, rfl, by omega, World.ownsRow_nil _ _ _ _, fun k hk => by omega, Below.refl _ _⟩
      case round =>
        obtain ⟨m, vv, G, rfl, rfl, hmr, hown, hG, hbel⟩ := hrel
        obtain ⟨p, hp⟩ : ∃ p, 2 * m = p := ⟨_, rfl⟩
        rw [hp]
        obtain ⟨q, hq⟩ : ∃ q, p + 1 = q := ⟨_, rfl⟩
        have eq_ : (p : Int) + 1 = (q : Int) := by omega
        by_cases hqr : q < r
        · have hqi : (q : Int) < (r : Int) := by omega
          have hpi : (p : Int) < (r : Int) := by omega
          obtain ⟨F, hF0, hF2⟩ := HR.out.1
          have hF1 := hF0.to (l := []) (Fr.of_below hbel) (by simp)
          have hSix := And.intro hF0.lt (And.intro (hF0.c0 p (by omega)) (And.intro (hF0.c1 p (by omega)) (And.intro (hF0.c2 p (by omega)) (And.intro (hF0.c0 q (by omega)) (And.intro (hF0.c1 q (by omega)) (hF0.c2 q (by omega)))))))
          have c0 := hF1.c0 p (by omega)
          have c1 := hF1.c1 p (by omega)
          have c2 := hF1.c2 p (by omega)
          have d0 := hF1.c0 q (by omega)
          have d1 := hF1.c1 q (by omega)
          have d2 := hF1.c2 q (by omega)
          have hglt := hF1.lt
          obtain ⟨tP1, tP2⟩ := hF2 p (by omega)
          obtain ⟨tQ1, tQ2⟩ := hF2 q (by omega)
          have tP := And.intro tP1 (Tree.to (Fr.of_below hbel) _ _ tP2)
          have tQ := And.intro tQ1 (Tree.to (Fr.of_below hbel) _ _ tQ2)
          have wP := HR.out.2.2.2.1 p (by omega)
          have wQ := HR.out.2.2.2.1 q (by omega)
          have hpow : 2 ^ (30 + j) ≤ 2 ^ 45 := Nat.pow_le_pow_right (by decide) (by omega)
          obtain ⟨⟨xw, xs, xt⟩, hX⟩ : ∃ z, F p = z := ⟨_, rfl⟩
          obtain ⟨⟨yw, ys, yt⟩, hY⟩ : ∃ z, F q = z := ⟨_, rfl⟩
          rw [hX] at c0 c1 c2 tP hSix
          rw [hY] at d0 d1 d2 tQ hSix
          obtain ⟨z, hz⟩ : ∃ z, xw + yw = z := ⟨_, rfl⟩
          have ez : (xw : Int) + (yw : Int) = (z : Int) := by omega
          have hxw : (z : Int) ≤ 100000000000000 := by have := tP.1; have := tQ.1; simp only at *; omega
          simp only at c0 c1 c2 d0 d1 d2
          have HS2 := Lib.hid (And.intro hG (And.intro tP (And.intro tQ (And.intro hp (And.intro hq hz)))))
          have HK : Hid (gr < wo.heap.size ∧ Six gr p q xw xs xt yw ys yt wo) := Lib.hid hSix
          have hW := Lib.hid hbel
          have hS := Lib.hid hown
          have hsz := hbel.size
          have hwq : IntKind.i64.wrap (q : Int) = (q : Int) := IntWalk.i64_in _ (by omega)
          have hwz : IntKind.i64.wrap (z : Int) = (z : Int) := IntWalk.i64_in _ (by omega)
          have hm320 : m ≤ 640 := by omega
          clear hown hG hbel hF0 hF1 hF2 tP tQ tP1 tP2 tQ1 tQ2 hSix hX hY hp hq hz wP wQ hpow hmr
          go_wp2_with fail
          have hA0 : Fr [] wr ((wr.alloc (.cells #[.int .i64 (xw : Int), .int .i64 (xs : Int), .pointer xt, .int .i64 (yw : Int), .int .i64 (ys : Int), .pointer yt] 120)).alloc (.cells #[.int .i64 (z : Int), .int .i64 0, .pointer (some ⟨wr.heap.size, 0, none⟩)] 119)).drew := ((Fr.alloc [] wr (.cells #[.int .i64 (xw : Int), .int .i64 (xs : Int), .pointer xt, .int .i64 (yw : Int), .int .i64 (ys : Int), .pointer yt] 120)).trans (Fr.alloc [] _ (.cells #[.int .i64 (z : Int), .int .i64 0, .pointer (some ⟨wr.heap.size, 0, none⟩)] 119))).drew
          have hW2 := Lib.hid (hA0.out hW.out (by simp))
          have hS2 := Lib.hid (ownsRow_to hS.out hA0 (by simp))
          have hsz2 := Lib.hid hW2.out.size
          have hbox := (Fr.alloc [] _ (.cells #[.int .i64 (z : Int), .int .i64 0, .pointer (some ⟨wr.heap.size, 0, none⟩)] 119)).drew.blk (new_of wr (.cells #[.int .i64 (xw : Int), .int .i64 (xs : Int), .pointer xt, .int .i64 (yw : Int), .int .i64 (ys : Int), .pointer yt] 120)) (by simp)
          have hth : ((wr.alloc (.cells #[.int .i64 (xw : Int), .int .i64 (xs : Int), .pointer xt, .int .i64 (yw : Int), .int .i64 (ys : Int), .pointer yt] 120)).alloc (.cells #[.int .i64 (z : Int), .int .i64 0, .pointer (some ⟨wr.heap.size, 0, none⟩)] 119)).drew.heap[wr.heap.size + 1]? = some (.cells #[.int .i64 (z : Int), .int .i64 0, .pointer (some ⟨wr.heap.size, 0, none⟩)] 119) := by
            have := new_of (wr.alloc (.cells #[.int .i64 (xw : Int), .int .i64 (xs : Int), .pointer xt, .int .i64 (yw : Int), .int .i64 (ys : Int), .pointer yt] 120)) (.cells #[.int .i64 (z : Int), .int .i64 0, .pointer (some ⟨wr.heap.size, 0, none⟩)] 119)
            rw [show (wr.alloc (.cells #[.int .i64 (xw : Int), .int .i64 (xs : Int), .pointer xt, .int .i64 (yw : Int), .int .i64 (ys : Int), .pointer yt] 120)).heap.size = wr.heap.size + 1 from Array.size_push _] at this
            exact this
          have hNew := Lib.hid (And.intro hA0 (And.intro hbox hth))
          clear hA0 hbox hth
          go_region_held3 (fun w' => w'.cell? ⟨gr, p * 3, none⟩ = some (.int .i64 (xw : Int)) ∧ w'.cell? ⟨gr, p * 3 + 1, none⟩ = some (.int .i64 (xs : Int)) ∧ w'.cell? ⟨gr, p * 3 + 2, none⟩ = some (.pointer xt) ∧ w'.cell? ⟨gr, q * 3, none⟩ = some (.int .i64 (yw : Int)) ∧ w'.cell? ⟨gr, q * 3 + 1, none⟩ = some (.int .i64 (ys : Int)) ∧ w'.cell? ⟨gr, q * 3 + 2, none⟩ = some (.pointer yt)) (first | go_keep | exact Six.to HK HQ.out.2.2.1) ((refine step_push wo.heap.size wo _ (by rfl) (.tmp 65) (.tmp 90) 113 (by rfl) 119 3 24 elemT vv m _ (by rfl) hS2 hW2 hsz2.out #[.int .i64 (z : Int), .int .i64 0, .pointer (some ⟨wr.heap.size, 0, none⟩)] (wr.heap.size + 1) 1 1 (by rfl) hNew.out.2.2 (by rfl) (by rfl) (by omega) (by omega) (by omega) ?_; intro g' cap' w5 HQ))
          go_wp2_with fail
          go_roundw
          case rel =>
            obtain ⟨hG, tP, tQ, hp, hq, hz⟩ := HS2.out
            obtain ⟨hA0, hbox, hth⟩ := hNew.out
            obtain ⟨hown5, hgrow5, hbel5, hge5⟩ := HQ.out
            have hB5 := boxes_grown hS2.out hgrow5
            have hglt : gl < wo.heap.size := lt_of HR.out.2.2.2.2.2.2.2.1
            have hszw := hW.out.size
            subst hp
            have hq' : q = 2 * m + 1 := by omega
            subst hq'
            refine ⟨m + 1, _, fun k => if k = m then ⟨z, 0, some ⟨wr.heap.size, 0, none⟩⟩ else G k, rfl, by first | go_num | (congr 1; omega), by omega, ?_, ?_, hbel5⟩
            · rw [List.range_succ, List.flatMap_append]
              have e1 : (List.range m).flatMap (fun k => Te (if k = m then ⟨z, 0, some ⟨wr.heap.size, 0, none⟩⟩ else G k)) = (List.range m).flatMap fun k => Te (G k) := flatMap_alike _ _ _ fun k hk => by rw [if_neg (by have := List.mem_range.1 hk; omega)]
              have e2 : [m].flatMap (fun k => Te (if k = m then ⟨z, 0, some ⟨wr.heap.size, 0, none⟩⟩ else G k)) = [.int .i64 (z : Int), .int .i64 0, .pointer (some ⟨wr.heap.size, 0, none⟩)] := by simp [Te]
              rw [e1, e2]
              exact hown5
            · intro k hk
              by_cases hkm : k = m
              · subst hkm
                simp only [if_pos]
                refine ⟨by simp only [pairs]; omega, wr.heap.size, ⟨xw, xs, xt⟩, ⟨yw, ys, yt⟩, rfl, by omega, hB5 _ _ hbox, ?_, ?_⟩
                · exact Tree.grow hB5 _ _ (Tree.to hA0.nil _ _ tP.2)
                · exact Tree.grow hB5 _ _ (Tree.to hA0.nil _ _ tQ.2)
              · simp only [if_neg hkm]
                obtain ⟨g1, g2⟩ := hG k (by omega)
                exact ⟨g1, Tree.grow hB5 _ _ (Tree.to hA0.nil _ _ g2)⟩
          case measure => simp [intOf]; omega
        · have hqi : (r : Int) ≤ (q : Int) := by omega
          have hqd : decide (q < r) = false := by simp; omega
          have hqb : (q : Int) ≤ 1300 := by omega
          have hm2 : m = r / 2 := by omega
          have hm0 : 0 < m := by omega
          rcases hown.2 with ⟨_, h0⟩ | ⟨g2, cap2, cur, hv, _⟩
          · exact absurd h0 (by omega)
          subst hv
          obtain ⟨_, _, hT2⟩ := trow_of_own hown
          obtain ⟨F1, hT1, hF1⟩ := HR.out.2.2.1
          have hT1' : Trow wr g n (fun k => if k < n then F1 k else th0) := (hT1.to (l := []) (Fr.of_below hbel) (by simp)).congr fun k hk => by rw [if_pos hk]
          have hT2' : Trow wr g2 m (fun k => if k < m then G k else th0) := hT2.congr fun k hk => by rw [if_pos hk]
          have hpow : 2 ^ (30 + j) ≤ 2 ^ 45 := Nat.pow_le_pow_right (by decide) (by omega)
          have hG1 : ∀ k, k < m → (G k).w ≤ 2 ^ (30 + (j + 1)) := fun k hk => by
            rw [(hG k hk).1]
            have h1 := HR.out.2.2.2.1 (2 * k) (by omega)
            have h2 := HR.out.2.2.2.1 (2 * k + 1) (by omega)
            have h3 : 2 ^ (30 + (j + 1)) = 2 ^ (30 + j) * 2 := Nat.pow_succ _ _
            simp only [pairs]; omega
          have HC := Lib.hid (mergeP_any g n cap g2 m cap2 _ _ wr hT1' hT2' (by omega) hm0 (by omega) (fun k => by
            by_cases hk : k < n
            · simp only [if_pos hk]; rw [(hF1 k hk).1]; exact Nat.le_trans (HL.out.2.2.2 k) (by decide)
            · simp only [if_neg hk]; simp [th0]) (fun k => by
            by_cases hk : k < m
            · simp only [if_pos hk]
              have h1 := HR.out.2.2.2.1 (2 * k) (by omega)
              have h2 := HR.out.2.2.2.1 (2 * k + 1) (by omega)
              rw [(hG k hk).1]; simp only [pairs]; omega
            · simp only [if_neg hk]; simp [th0]))
          have HG := Lib.hid (And.intro hG (And.intro hF1 (And.intro hm2 (And.intro hm0 (And.intro hG1 (And.intro hbel (And.intro hp hq)))))))
          clear hown hT1 hT1' hT2 hT2' hF1 hG hm2 hm0 hpow hG1 hbel hp hq hmr
          go_wp2_with fail
          refine HC.out.mono ?_
          rintro e w5 ⟨g5, cap5, σ, rfl, f5, hge5, hcap5, hT5, hsh5, hso5⟩
          have H5 := Lib.hid (And.intro f5 (And.intro hge5 (And.intro hT5 (And.intro hsh5 (And.intro hso5 hcap5)))))
          clear f5 hge5 hT5 hsh5 hso5 hcap5 HC
          go_wp2_with fail
          go_roundw
          case rel =>
            obtain ⟨f5, hge5, hT5, hsh5, hso5, hcap5⟩ := H5.out
            obtain ⟨hG, hF1, hm2, hm0, hG1, hbel, hp, hq⟩ := HG.out
            obtain ⟨hR, hlev, hRL, hw, hgr, hgb, hvar, hlens, hf⟩ := HR.out
            obtain ⟨_, _, _, hLw⟩ := HL.out
            have hsz := hbel.size
            have hglt : gl < wo.heap.size := lt_of hlens
            have hblt : b1 < wo.heap.size := lt_of hvar
            have hσ : ∀ k, k < n + m → σ k < n + m := fun k hk => shuf_lt hsh5 k hk
            have hfw : Fr [gl] wo w5 := ((Fr.of_below hbel).trans f5).nil
            refine ⟨j + 1, n + m, g5, cap5, fun k => if σ k < n then L (σ k) else pairs A (σ k - n), rfl, by go_num, by omega, by omega, by omega, hcap5, ?_, ?_, ?_, ?_, by omega, by omega, ?_, ?_, ?_⟩
            · rw [hm2]
              rw [hm2] at hsh5 hso5 hσ
              refine Lev.more j r A _ hlev ⟨σ, hsh5, hso5.weights hσ fun k hk => ?_, fun k _ => rfl⟩
              simp only [catF]
              by_cases hkn : k < n
              · rw [if_pos hkn, if_pos hkn, if_pos hkn, (hF1 k hkn).1]
              · rw [if_neg hkn, if_neg hkn, if_pos (by omega), (hG (k - n) (by omega)).1]
            · refine ⟨_, hT5, fun k hk => ?_⟩
              have := hσ k hk
              simp only [catF]
              by_cases hkn : σ k < n
              · simp only [if_pos hkn]
                exact ⟨(hF1 _ hkn).1, Tree.to hfw _ _ (hF1 _ hkn).2⟩
              · simp only [if_neg hkn, if_pos (show σ k - n < m by omega)]
                obtain ⟨q1, q2⟩ := hG (σ k - n) (by omega)
                exact ⟨q1, Tree.to f5.nil _ _ q2⟩
            · obtain ⟨F, q1, q2⟩ := hRL
              exact ⟨F, q1.to (l := []) ((Fr.of_below hbel).trans f5) (by simp), fun k hk => ⟨(q2 k hk).1, Tree.to hfw _ _ (q2 k hk).2⟩⟩
            · intro k hk
              have h1 := hσ k hk
              simp only
              by_cases hkn : σ k < n
              · rw [if_pos hkn]
                exact Nat.le_trans (hLw _) (Nat.le_trans (by decide : 1073741824 ≤ 2 ^ 30) (Nat.pow_le_pow_right (by decide) (by omega)))
              · rw [if_neg hkn, ← (hG (σ k - n) (by omega)).1]
                exact hG1 _ (by omega)
            · exact f5.blk ((Fr.of_below (l := []) hbel).blk hvar (by simp)) (by simp)
            · exact (hlens.to (Fr.of_below (l := []) hbel) (by simp)).to f5 (by simp)
            · exact hf.trans ((Fr.of_below hbel).trans f5)
          case measure => simp [intOf]; omega
    · have hjd : decide ((j : Int) < limit - 1) = false := by simp; omega
      have hje : (j : Int) = limit - 1 := by omega
      obtain ⟨hgl, hb1, hL, hLw⟩ := HL.out
      have hLl : (List.range n).map L = (sortC l).map leafP := by
        have := leafs_of (l := l) (by rw [HS.out.2.2.1]; exact H1.out.2.2.2.1) (by rw [HS.out.2.2.1]; exact H1.out.2.2.2.2.1)
        rw [← this, HS.out.2.2.1, hL, List.map_map]
        rfl
      obtain ⟨n2, hn2e⟩ : ∃ n2, 2 * n = n2 := ⟨_, rfl⟩
      obtain ⟨K, hKe⟩ : ∃ K, n2 - 2 = K := ⟨_, rfl⟩
      have e1 : (2 : Int) * (n : Int) = (n2 : Int) := by omega
      have e2 : (n2 : Int) - 2 = (K : Int) := by omega
      have hKr : K ≤ r := by
        have h4 := lev_room PT.node ((List.range n).map L) j 2 (by
          have := need_room (n := n) (k := limit.toNat) (by rw [HS.out.2.2.2]; omega)
          rw [List.length_map, List.length_range]
          rw [show limit.toNat = j + 1 by omega, Nat.pow_succ] at this
          omega)
        rw [hlev.len (by rw [hLl]; exact sortC_srt l), List.length_map, List.length_range] at h4
        omega
      have hK1 : (K : Int) ≤ (cr : Int) := by omega
      have hn2b : (n2 : Int) ≤ 640 := by omega
      have hn2c : 4 ≤ (n2 : Int) := by omega
      have hK2 : (K : Int) ≤ 640 := by omega
      have hK0 : 2 ≤ (K : Int) := by omega
      have HO := Lib.hid (fun k (hk : k ≤ r) s => hlev.occs hLl k hk s)
      have HE := Lib.hid (And.intro hje (And.intro hn2e (And.intro hKe (And.intro hKr hrc))))
      have HR := Lib.hid (And.intro hR (And.intro hlev (And.intro hw (And.intro hgr (And.intro hgb (And.intro hvar (And.intro hlens hf)))))))
      clear hR hlev hL hw hgr hgb hvar hlens hf hje hn2e hKe hKr hrc hrn hr2 hLw hLl hj hjl
      subst hgl
      subst hb1
      obtain ⟨wo, hwo⟩ : ∃ wo, wo = wr := ⟨wr, rfl⟩
      subst hwo
      go_wp2_with fail
      go_loopw [104] (fun v104 wr => LastR w w1.heap.size (w1.heap.size + 1) wo.heap.size gr l.length r K A v104 wr) (fun v104 _ => K - (intOf v104).toNat)
      case atStart =>
        obtain ⟨hR, hlev, hw, hgr, hgb, hvar, hlens, hf⟩ := HR.out
        have hA := Fr.alloc [] wo (.cells #[.func (.func 62) #[] #[.pointer (some ⟨w1.heap.size + 1, 0, none⟩), .pointer (some ⟨wo.heap.size, 0, none⟩)]] 122)
        have hgl := lt_of hlens
        exact ⟨0, rfl, Nat.zero_le _, hR.to hA.nil hgr, ⟨hA.blk hvar (by simp), new_of _ _, by omega, by omega⟩, hlens.to hA (by simp), hf.trans hA⟩
      case round =>
        obtain ⟨k, rfl, hk, hR2, hM, hN, hf2⟩ := hrel
        by_cases hkK : k < K
        · have hki : (k : Int) < (K : Int) := by omega
          obtain ⟨F, hF1, hF2⟩ := hR2
          have hkr : k < r := by have := HE.out.2.2.2.1; omega
          have c0 := hF1.c0 k hkr
          have c1 := hF1.c1 k hkr
          have c2 := hF1.c2 k hkr
          obtain ⟨⟨xw, xs, xt⟩, hX⟩ : ∃ z, F k = z := ⟨_, rfl⟩
          have tP := hF2 k hkr
          rw [hX] at c0 c1 c2 tP
          simp only at c0 c1 c2
          have hM0 := hM
          have d2 := cell_of hM.h2 0
          have b2lt := lt_of hM.h2
          have hglt := lt_of hF1.choose_spec
          have hA := Fr.alloc [] wr (.cells (Te ⟨xw, xs, xt⟩).toArray 119)
          have o1 := HO.out (k + 1) (by omega)
          have HM := Lib.hid (meet_any (w1.heap.size + 1) wo.heap.size w1.heap.size l.length l.length (by omega) (A k).2 ⟨xw, xs, xt⟩ (sumOcc A k) _ (Tree.to hA.nil _ _ tP.2) (hM.to hA.nil) (hN.to hA (by simp)) (fun s h => (o1 s).2.2 (by simp only [sumOcc]; omega)) (fun s => by have := (o1 s).2.1; have := HE.out.1; simp only [sumOcc] at *; omega))
          have HH := Lib.hid (And.intro hF1 (And.intro hF2 (And.intro hM0 (And.intro hf2 (And.intro hA o1)))))
          simp at d2
          simp only [Te, tv] at HM HH
          clear hF1 hF2 hM hM0 hN hf2 hX tP hA o1
          go_wp2_with fail
          refine HM.out.mono ?_
          rintro e w3 ⟨rfl, hN3, f3⟩
          have H3 := Lib.hid (And.intro hN3 f3)
          clear hN3 f3 HM d2
          go_wp2_with fail
          go_roundw
          case rel =>
            obtain ⟨hN3, f3⟩ := H3.out
            obtain ⟨hF1, hF2, hM0, hf2, hA, o1⟩ := HH.out
            have hgr := HR.out.2.2.2.1
            have hfw := hA.nil.trans f3
            refine ⟨k + 1, by go_num, by omega, ⟨F, hF1.to hfw (by simpa using hgr), fun i hi => ⟨(hF2 i hi).1, Tree.to hfw _ _ (hF2 i hi).2⟩⟩, hM0.to hfw, hN3.congr fun i _ => rfl, ?_⟩
            exact f3.outL (hf2.trans hA) fun i hi => .inr (by
              have : i = w1.heap.size := by simpa using hi
              rw [this]; exact H1.out.1.size)
          case measure => simp [intOf]; omega
        · have hkd : decide (k < K) = false := by simp; omega
          have hkK2 : k = K := by omega
          subst hkK2
          have c1 := cell_of hM.h1 0
          simp at c1
          have HH := Lib.hid (And.intro hN hf2)
          clear hR2 hM hN hf2
          go_wp2_with fail
          go_ret2
          refine ⟨w1.heap.size, rfl, H1.out.1.size, HH.out.1.congr fun s _ => ?_, HH.out.2⟩
          obtain ⟨q1, q2, q3, q4, q5⟩ := HE.out
          rw [(HO.out k q4 s).1]
          unfold lensN lenOf
          rw [List.length_map, sortC_length, HS.out.2.2.1, show limit.toNat - 1 = j by omega, q2, q3]
end Go.Proofs.YtciejmlhdmjajaaGreat

