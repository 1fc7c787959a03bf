/- Package-merge in plain Lean: what the rows of the levels are, that the lengths are whole, and that none weigh less. -/
import Derived.WalkKit
namespace Go.Proofs.Ytciejmlhdmjajaa
set_option linter.unusedVariables false
set_option linter.unusedSimpArgs false

/-- A sum over a list. -/
def tot {β : Type} (f : β → Nat) : List β → Nat
  | [] => 0
  | x :: l => f x + tot f l
theorem tot_append {β : Type} (f : β → Nat) (a b : List β) : tot f (a ++ b) = tot f a + tot f b := by
  induction a with
  | nil => simp [tot]
  | cons x a ih => simp only [List.cons_append, tot, ih]; omega
theorem tot_perm {β : Type} (f : β → Nat) {a b : List β} (h : a.Perm b) : tot f a = tot f b := by
  induction h with
  | nil => rfl
  | cons x _ ih => simp only [tot, ih]
  | swap x y l => simp only [tot]; omega
  | trans _ _ ih1 ih2 => rw [ih1, ih2]
theorem tot_le {β : Type} (f g : β → Nat) (l : List β) (h : ∀ x ∈ l, f x ≤ g x) : tot f l ≤ tot g l := by
  induction l with
  | nil => exact Nat.le_refl _
  | cons x l ih => have := ih (fun y hy => h y (by simp [hy])); have := h x (by simp); simp only [tot]; omega
theorem tot_congr {β : Type} (f g : β → Nat) (l : List β) (h : ∀ x ∈ l, f x = g x) : tot f l = tot g l :=
  Nat.le_antisymm (tot_le f g l fun x hx => Nat.le_of_eq (h x hx)) (tot_le g f l fun x hx => Nat.le_of_eq (h x hx).symm)
theorem tot_add {β : Type} (f g : β → Nat) (l : List β) : tot (fun x => f x + g x) l = tot f l + tot g l := by
  induction l with
  | nil => rfl
  | cons x l ih => simp only [tot, ih]; omega
theorem tot_mul {β : Type} (f : β → Nat) (c : Nat) (l : List β) : tot (fun x => f x * c) l = tot f l * c := by
  induction l with
  | nil => simp [tot]
  | cons x l ih => simp only [tot, ih, Nat.add_mul]
theorem tot_const {β : Type} (c : Nat) (l : List β) : tot (fun _ => c) l = l.length * c := by
  induction l with
  | nil => simp [tot]
  | cons x l ih => simp only [tot, ih, List.length_cons, Nat.add_mul]; omega
theorem tot_zero {β : Type} (f : β → Nat) (l : List β) (h : ∀ x ∈ l, f x = 0) : tot f l = 0 := by
  rw [tot_congr f (fun _ => 0) l h, tot_const]; simp
theorem tot_map {β γ : Type} (f : γ → Nat) (g : β → γ) (l : List β) : tot f (l.map g) = tot (fun x => f (g x)) l := by
  induction l with
  | nil => rfl
  | cons x l ih => simp only [List.map_cons, tot, ih]
theorem tot_mem {β : Type} (f : β → Nat) {l : List β} {x : β} (h : x ∈ l) : f x ≤ tot f l := by
  induction l with
  | nil => simp at h
  | cons y l ih =>
    rcases List.mem_cons.1 h with rfl | h
    · simp only [tot]; omega
    · have := ih h; simp only [tot]; omega
theorem tot_filter {β : Type} (f : β → Nat) (p : β → Bool) (l : List β) : tot f (l.filter p) = tot (fun x => if p x then f x else 0) l := by
  induction l with
  | nil => rfl
  | cons x l ih =>
    rw [List.filter_cons]
    by_cases h : p x = true
    · rw [if_pos h]; simp only [tot, ih, if_pos h]
    · rw [if_neg h]; simp only [tot, ih, if_neg h]; omega
theorem tot_length {β : Type} (l : List β) : tot (fun _ => 1) l = l.length := by rw [tot_const]; omega

/-- A sum over the levels up to j. -/
def sumTo (g : Nat → Nat) : Nat → Nat
  | 0 => g 0
  | j + 1 => sumTo g j + g (j + 1)
theorem sumTo_le (f g : Nat → Nat) : ∀ j, (∀ i, i ≤ j → f i ≤ g i) → sumTo f j ≤ sumTo g j
  | 0, h => h 0 (Nat.le_refl _)
  | j + 1, h => Nat.add_le_add (sumTo_le f g j fun i hi => h i (by omega)) (h (j + 1) (Nat.le_refl _))
theorem sumTo_congr (f g : Nat → Nat) (j : Nat) (h : ∀ i, i ≤ j → f i = g i) : sumTo f j = sumTo g j :=
  Nat.le_antisymm (sumTo_le f g j fun i hi => Nat.le_of_eq (h i hi)) (sumTo_le g f j fun i hi => Nat.le_of_eq (h i hi).symm)
theorem sumTo_tot {β : Type} (f : β → Nat → Nat) (l : List β) : ∀ j, sumTo (fun i => tot (fun x => f x i) l) j = tot (fun x => sumTo (f x) j) l
  | 0 => rfl
  | j + 1 => by simp only [sumTo]; rw [sumTo_tot f l j, ← tot_add]
theorem sumTo_const (c : Nat) : ∀ j, sumTo (fun _ => c) j = (j + 1) * c
  | 0 => by simp [sumTo]
  | j + 1 => by rw [sumTo, sumTo_const c j]; simp only [Nat.add_mul]; omega
theorem sumTo_mul (f : Nat → Nat) (c : Nat) : ∀ j, c * sumTo f j = sumTo (fun i => c * f i) j
  | 0 => rfl
  | j + 1 => by simp only [sumTo]; rw [Nat.mul_add, sumTo_mul f c j]
/-- What grows from 0 to 1, weighed by twos. -/
theorem sumTo_two (g : Nat → Nat) : ∀ j, (∀ i, i ≤ j → g i ≤ 1) → (∀ i, i < j → g i ≤ g (i + 1)) → sumTo (fun i => g i * 2 ^ i) j + 2 ^ (j + 1 - sumTo g j) = 2 ^ (j + 1) ∧ sumTo g j ≤ j + 1
  | 0, h, _ => by
    have := h 0 (Nat.le_refl _)
    simp only [sumTo]
    rcases (show g 0 = 0 ∨ g 0 = 1 by omega) with e | e <;> simp [e]
  | j + 1, h, k => by
    obtain ⟨e1, e2⟩ := sumTo_two g j (fun i hi => h i (by omega)) (fun i hi => k i (by omega))
    have h1 := h (j + 1) (Nat.le_refl _)
    simp only [sumTo]
    rcases (show g (j + 1) = 0 ∨ g (j + 1) = 1 by omega) with e | e
    · have hz : ∀ i, i ≤ j → g i = 0 := by
        have hd : ∀ d, d ≤ j → g (j - d) = 0 := by
          intro d
          induction d with
          | zero => intro _; have := k j (by omega); rw [Nat.sub_zero]; omega
          | succ d ih => intro hd; have := ih (by omega); have := k (j - (d + 1)) (by omega); rw [show j - (d + 1) + 1 = j - d by omega] at this; omega
        intro i hi
        have := hd (j - i) (by omega)
        rwa [show j - (j - i) = i by omega] at this
      have s0 : sumTo g j = 0 := by rw [sumTo_congr g (fun _ => 0) j hz, sumTo_const]; simp
      have s1 : sumTo (fun i => g i * 2 ^ i) j = 0 := by rw [sumTo_congr _ (fun _ => 0) j (fun i hi => by rw [hz i hi]; simp), sumTo_const]; simp
      rw [e, s0, s1]; simp
    · rw [e, show j + 1 + 1 - (sumTo g j + 1) = j + 1 - sumTo g j by omega, Nat.one_mul]
      refine ⟨?_, by omega⟩
      have : 2 ^ (j + 1 + 1) = 2 ^ (j + 1) + 2 ^ (j + 1) := by rw [Nat.pow_succ]; omega
      omega

section
variable {α : Type}
def srt (l : List (Nat × α)) : Prop := l.Pairwise (fun a b => a.1 ≤ b.1)
def leP (a b : Nat × α) : Bool := decide (a.1 ≤ b.1)
/-- Two rows in one; where weights are the same the first one's are ahead. -/
def mrg (A B : List (Nat × α)) : List (Nat × α) := A.merge B leP
theorem mrg_nil (B : List (Nat × α)) : mrg [] B = B := List.nil_merge B
theorem mrg_right (A : List (Nat × α)) : mrg A [] = A := List.merge_right A
theorem mrg_cons (a b : Nat × α) (A B : List (Nat × α)) : mrg (a :: A) (b :: B) = if a.1 ≤ b.1 then a :: mrg A (b :: B) else b :: mrg (a :: A) B := by
  unfold mrg
  rw [List.cons_merge_cons]
  simp [leP]
theorem mrg_perm (A B : List (Nat × α)) : (mrg A B).Perm (A ++ B) := List.merge_perm_append leP
theorem mrg_length (A B : List (Nat × α)) : (mrg A B).length = A.length + B.length := by rw [(mrg_perm A B).length_eq, List.length_append]
theorem mrg_srt {A B : List (Nat × α)} (h : srt A) (k : srt B) : srt (mrg A B) := by
  have := List.pairwise_merge (le := leP (α := α)) (fun a b c h1 h2 => by simp [leP] at *; omega) (fun a b => by simp [leP]; omega) A B (h.imp fun h => by simpa [leP] using h) (k.imp fun h => by simpa [leP] using h)
  exact this.imp fun h => by simpa [leP] using h
theorem srt_get {R : List (Nat × α)} (h : srt R) {i j : Nat} {x y : Nat × α} (hi : R[i]? = some x) (hj : R[j]? = some y) (hij : i ≤ j) : x.1 ≤ y.1 := by
  obtain ⟨h1, rfl⟩ := List.getElem?_eq_some_iff.1 hi
  obtain ⟨h2, rfl⟩ := List.getElem?_eq_some_iff.1 hj
  rcases Nat.lt_or_ge i j with hl | hl
  · exact List.pairwise_iff_getElem.1 h i j h1 h2 hl
  · have : i = j := by omega
    subst this; exact Nat.le_refl _
theorem srt_mem {R : List (Nat × α)} (h : srt R) {k : Nat} {x y : Nat × α} (hx : x ∈ R.take k) (hy : R[k - 1]? = some y) : x.1 ≤ y.1 := by
  obtain ⟨i, hi⟩ := List.getElem?_of_mem hx
  have hl : i < (R.take k).length := (List.getElem?_eq_some_iff.1 hi).1
  rw [List.length_take] at hl
  rw [List.getElem?_take_of_lt (by omega)] at hi
  exact srt_get h hi hy (by omega)
/-- The first of the merged row are the first of both. -/
theorem mrg_cut : ∀ (A B : List (Nat × α)) (k : Nat), srt A → k ≤ A.length + B.length → ∃ a p, a ≤ A.length ∧ p ≤ B.length ∧ a + p = k ∧ ((mrg A B).take k).Perm (A.take a ++ B.take p) ∧ ∀ x y, 0 < p → B[p - 1]? = some y → A[a]? = some x → y.1 < x.1
  | [], B, k, _, hk => ⟨0, k, Nat.le_refl _, by simpa using hk, by omega, by rw [mrg_nil]; simp, fun x y _ _ h => by simp at h⟩
  | a :: A, [], k, _, hk => ⟨k, 0, by simpa using hk, Nat.le_refl _, by omega, by rw [mrg_right]; simp, fun x y h => by omega⟩
  | a :: A, b :: B, 0, _, _ => ⟨0, 0, by omega, by omega, rfl, by simp, fun x y h => by omega⟩
  | a :: A, b :: B, k + 1, hA, hk => by
    rw [mrg_cons]
    by_cases h : a.1 ≤ b.1
    · obtain ⟨c, p, h1, h2, h3, h4, h5⟩ := mrg_cut A (b :: B) k (List.Pairwise.of_cons hA) (by simp only [List.length_cons] at hk ⊢; omega)
      refine ⟨c + 1, p, by simp only [List.length_cons]; omega, h2, by omega, ?_, fun x y hp hy hx => h5 x y hp hy (by simpa using hx)⟩
      rw [if_pos h, List.take_succ_cons, List.take_succ_cons, List.cons_append]
      exact h4.cons a
    · obtain ⟨c, p, h1, h2, h3, h4, h5⟩ := mrg_cut (a :: A) B k hA (by simp only [List.length_cons] at hk ⊢; omega)
      refine ⟨c, p + 1, h1, by simp only [List.length_cons]; omega, by omega, ?_, fun x y hp hy hx => ?_⟩
      · rw [if_neg h, List.take_succ_cons, List.take_succ_cons]
        exact (h4.cons b).trans List.perm_middle.symm
      · cases p with
        | zero =>
          simp at hy
          subst hy
          have := srt_get (R := a :: A) hA (i := 0) rfl hx (Nat.zero_le _)
          omega
        | succ p => exact h5 x y (by omega) (by simpa using hy) hx
termination_by A B => A.length + B.length
/-- No other part of a row in order weighs less than its first ones. -/
theorem low {R S T : List (Nat × α)} (h : srt R) (hp : R.Perm (S ++ T)) : tot (·.1) (R.take S.length) ≤ tot (·.1) S := by
  rcases Nat.eq_zero_or_pos S.length with h0 | h0
  · rw [h0]; simp [tot]
  have hlen := hp.length_eq
  rw [List.length_append] at hlen
  obtain ⟨y, hy⟩ : ∃ y, R[S.length - 1]? = some y := ⟨R[S.length - 1]'(by omega), List.getElem?_eq_getElem _⟩
  have e1 : tot (fun x => x.1 + (y.1 - x.1)) (R.take S.length) = S.length * y.1 := by
    rw [tot_congr _ (fun _ => y.1) _ (fun x hx => by have := srt_mem h hx hy; omega), tot_const, List.length_take]
    congr 1; omega
  have e2 : S.length * y.1 ≤ tot (fun x => x.1 + (y.1 - x.1)) S := by
    rw [← tot_const]
    exact tot_le _ _ _ fun x _ => by omega
  have e3 : tot (fun x => y.1 - x.1) (R.drop S.length) = 0 := tot_zero _ _ fun x hx => by
    obtain ⟨i, hi⟩ := List.getElem?_of_mem hx
    rw [List.getElem?_drop] at hi
    have := srt_get h hy hi (by omega)
    omega
  have e4 := tot_perm (fun x : Nat × α => y.1 - x.1) hp
  rw [← List.take_append_drop S.length R, tot_append, tot_append, e3] at e4
  rw [tot_add (fun x : Nat × α => x.1)] at e1 e2
  have q1 : tot (fun x : Nat × α => x.1) S = tot Prod.fst S := rfl
  have q2 : tot (fun x : Nat × α => x.1) (R.take S.length) = tot Prod.fst (R.take S.length) := rfl
  omega

variable (node : α → α → α)
/-- The packages of a row. -/
def prs : List (Nat × α) → List (Nat × α)
  | x :: y :: r => (x.1 + y.1, node x.2 y.2) :: prs r
  | _ => []
theorem prs_length : ∀ R : List (Nat × α), (prs node R).length = R.length / 2
  | [] => by simp [prs]
  | [x] => by simp [prs]
  | x :: y :: r => by rw [prs, List.length_cons, prs_length r, List.length_cons, List.length_cons]; omega
theorem prs_get : ∀ (R : List (Nat × α)) (k : Nat) (x y : Nat × α), R[2 * k]? = some x → R[2 * k + 1]? = some y → (prs node R)[k]? = some (x.1 + y.1, node x.2 y.2)
  | [], k, x, y, h, _ => by simp at h
  | [z], k, x, y, _, h => by simp at h
  | u :: v :: r, 0, x, y, h, g => by simp at h g; subst h; subst g; rfl
  | u :: v :: r, k + 1, x, y, h, g => by
    rw [prs, List.getElem?_cons_succ]
    exact prs_get r k x y (by rw [show 2 * (k + 1) = 2 * k + 1 + 1 by omega] at h; simpa using h) (by rw [show 2 * (k + 1) + 1 = 2 * k + 1 + 1 + 1 by omega] at g; simpa using g)
theorem prs_srt (R : List (Nat × α)) (h : srt R) : srt (prs node R) := by
  unfold srt
  rw [List.pairwise_iff_getElem]
  intro i j hi hj hij
  rw [prs_length] at hi hj
  have g1 := prs_get node R i R[2 * i] R[2 * i + 1] (List.getElem?_eq_getElem (by omega)) (List.getElem?_eq_getElem (by omega))
  have g2 := prs_get node R j R[2 * j] R[2 * j + 1] (List.getElem?_eq_getElem (by omega)) (List.getElem?_eq_getElem (by omega))
  obtain ⟨_, e1⟩ := List.getElem?_eq_some_iff.1 g1
  obtain ⟨_, e2⟩ := List.getElem?_eq_some_iff.1 g2
  rw [e1, e2]
  have a := srt_get h (i := 2 * i) (j := 2 * j) (List.getElem?_eq_getElem (by omega)) (List.getElem?_eq_getElem (by omega)) (by omega)
  have b := srt_get h (i := 2 * i + 1) (j := 2 * j + 1) (List.getElem?_eq_getElem (by omega)) (List.getElem?_eq_getElem (by omega)) (by omega)
  simp only
  omega
theorem prs_tot (f : Nat × α → Nat) (hf : ∀ x y : Nat × α, f (x.1 + y.1, node x.2 y.2) = f x + f y) : ∀ (R : List (Nat × α)) (p : Nat), 2 * p ≤ R.length → tot f ((prs node R).take p) = tot f (R.take (2 * p))
  | [], p, h => by obtain rfl : p = 0 := by simp at h; omega
                   rfl
  | [z], p, h => by simp at h; have : p = 0 := by omega
                    subst this; rfl
  | x :: y :: r, 0, _ => rfl
  | x :: y :: r, p + 1, h => by
    rw [prs, List.take_succ_cons, show 2 * (p + 1) = 2 * p + 1 + 1 by omega, List.take_succ_cons, List.take_succ_cons]
    simp only [tot]
    rw [prs_tot f hf r p (by simp only [List.length_cons] at h; omega), hf]
    omega
/-- The rows of the levels; level 0 has the leaves alone. -/
def lev (L : List (Nat × α)) : Nat → List (Nat × α)
  | 0 => L
  | j + 1 => mrg L (prs node (lev L j))
variable (L : List (Nat × α)) (hL : srt L)
include hL
theorem lev_srt : ∀ j, srt (lev node L j)
  | 0 => hL
  | j + 1 => mrg_srt hL (prs_srt node _ (lev_srt j))
omit hL
theorem lev_length (j : Nat) : (lev node L (j + 1)).length = L.length + (lev node L j).length / 2 := by
  rw [lev, mrg_length, prs_length]
theorem lev_room : ∀ j t, L.length ≤ t * 2 ^ j → 2 * L.length ≤ (lev node L j).length + t
  | 0, t, h => by simp at h; show 2 * L.length ≤ L.length + t; omega
  | j + 1, t, h => by
    have := lev_room j (2 * t) (by rw [Nat.pow_succ] at h; rw [Nat.mul_comm 2 t, Nat.mul_assoc, Nat.mul_comm 2]; exact h)
    rw [lev_length]
    omega
theorem lev_le : ∀ j, (lev node L j).length ≤ 2 * L.length
  | 0 => by show L.length ≤ _; omega
  | j + 1 => by have := lev_le j; rw [lev_length]; omega
include hL
/-- Of what the first things of a level's row are made: first leaves of each level, no fewer on the later levels. -/
theorem shape : ∀ j k, k ≤ (lev node L j).length → ∃ a : Nat → Nat, (∀ i, i ≤ j → a i ≤ L.length) ∧ (∀ i, i < j → a i ≤ a (i + 1)) ∧
    (∀ f : Nat × α → Nat, (∀ x y : Nat × α, f (x.1 + y.1, node x.2 y.2) = f x + f y) → tot f ((lev node L j).take k) = sumTo (fun i => tot f (L.take (a i))) j) ∧
    sumTo (fun i => a i * 2 ^ i) j = k * 2 ^ j ∧ ∀ x y, 0 < a j → L[a j - 1]? = some x → (lev node L j)[k - 1]? = some y → x.1 ≤ y.1
  | 0, k, hk => ⟨fun _ => k, fun i _ => hk, fun i h => by omega, fun f _ => rfl, rfl, fun x y h h1 h2 => srt_get hL h1 h2 (Nat.le_refl _)⟩
  | j + 1, k, hk => by
    rw [lev, mrg_length] at hk
    obtain ⟨c, p, h1, h2, h3, h4, h5⟩ := mrg_cut L (prs node (lev node L j)) k hL hk
    have h2' := h2
    rw [prs_length] at h2'
    obtain ⟨a, a1, a2, a3, a4, a5⟩ := shape j (2 * p) (by omega)
    have hpow : 0 < 2 ^ j := Nat.two_pow_pos j
    have ha : a j ≤ c := by
      rcases Nat.lt_or_ge c (a j) with hlt | hge
      · exfalso
        have hp : 0 < p := by
          rcases Nat.eq_zero_or_pos p with hp | hp
          · exfalso
            rw [hp] at a4
            have : a j * 2 ^ j ≤ sumTo (fun i => a i * 2 ^ i) j := by cases j with
              | zero => exact Nat.le_refl _
              | succ j => simp only [sumTo]; omega
            have : 2 ^ j ≤ a j * 2 ^ j := Nat.le_mul_of_pos_left _ (by omega)
            omega
          · exact hp
        have hcl := a1 j (Nat.le_refl _)
        obtain ⟨x, hx⟩ : ∃ x, L[c]? = some x := ⟨L[c]'(by omega), List.getElem?_eq_getElem _⟩
        obtain ⟨z, hz⟩ : ∃ z, L[a j - 1]? = some z := ⟨L[a j - 1]'(by omega), List.getElem?_eq_getElem _⟩
        obtain ⟨u, hu⟩ : ∃ u, (lev node L j)[2 * (p - 1)]? = some u := ⟨(lev node L j)[2 * (p - 1)]'(by omega), List.getElem?_eq_getElem _⟩
        obtain ⟨v, hv⟩ : ∃ v, (lev node L j)[2 * (p - 1) + 1]? = some v := ⟨(lev node L j)[2 * (p - 1) + 1]'(by omega), List.getElem?_eq_getElem _⟩
        have g := h5 x _ hp (prs_get node _ (p - 1) u v hu hv) hx
        have g2 := a5 z v (by omega) hz (by rw [show 2 * p - 1 = 2 * (p - 1) + 1 by omega]; exact hv)
        have g3 := srt_get hL hx hz (by omega)
        simp only at g
        omega
      · exact hge
    refine ⟨fun i => if i = j + 1 then c else a i, ?_, ?_, ?_, ?_, ?_⟩
    · intro i hi
      by_cases e : i = j + 1
      · simp only [if_pos e]; exact h1
      · simp only [if_neg e]; exact a1 i (by omega)
    · intro i hi
      by_cases e : i = j
      · subst e; simp; exact ha
      · simp only [if_neg (show i ≠ j + 1 by omega), if_neg (show i + 1 ≠ j + 1 by omega)]; exact a2 i (by omega)
    · intro f hf
      rw [lev, tot_perm f h4, tot_append, prs_tot node f hf _ p (by omega), a3 f hf]
      simp only [sumTo, if_pos]
      rw [sumTo_congr (fun i => tot f (L.take (if i = j + 1 then c else a i))) (fun i => tot f (L.take (a i))) j (fun i hi => by rw [if_neg (by omega)])]
      omega
    · simp only [sumTo, if_pos]
      rw [sumTo_congr (fun i => (if i = j + 1 then c else a i) * 2 ^ i) (fun i => a i * 2 ^ i) j (fun i hi => by rw [if_neg (by omega)]), a4, ← h3, Nat.add_mul, Nat.pow_succ]
      have : 2 * p * 2 ^ j = p * (2 ^ j * 2) := by rw [Nat.mul_comm 2 p, Nat.mul_assoc, Nat.mul_comm 2]
      omega
    · intro x y hc hx hy
      simp only [if_pos] at hc hx
      refine srt_mem (lev_srt node L hL (j + 1)) (k := k) ?_ hy
      rw [lev]
      refine h4.symm.subset (List.mem_append_left _ ?_)
      have : (L.take c)[c - 1]? = some x := by rw [List.getElem?_take_of_lt (by omega)]; exact hx
      exact List.mem_of_getElem? this
/-- No other choice of leaves weighs less. -/
theorem best_row : ∀ j k (b : Nat → Nat), (∀ i, i ≤ j → b i ≤ L.length) → sumTo (fun i => b i * 2 ^ i) j = k * 2 ^ j → k ≤ (lev node L j).length ∧ tot (·.1) ((lev node L j).take k) ≤ sumTo (fun i => tot (·.1) (L.take (b i))) j
  | 0, k, b, hb, h => by
    simp only [sumTo] at h ⊢
    have : b 0 = k := by simpa using h
    subst this
    exact ⟨hb 0 (Nat.le_refl _), Nat.le_refl _⟩
  | j + 1, k, b, hb, h => by
    simp only [sumTo] at h ⊢
    have hbk : b (j + 1) ≤ k := by
      rcases Nat.lt_or_ge k (b (j + 1)) with hlt | hge
      · have := Nat.mul_lt_mul_of_pos_right hlt (Nat.two_pow_pos (j + 1)); omega
      · exact hge
    have h2 : sumTo (fun i => b i * 2 ^ i) j = 2 * (k - b (j + 1)) * 2 ^ j := by
      have e : k * 2 ^ (j + 1) = (k - b (j + 1)) * 2 ^ (j + 1) + b (j + 1) * 2 ^ (j + 1) := by rw [← Nat.add_mul]; congr 1; omega
      have e2 : 2 * (k - b (j + 1)) * 2 ^ j = (k - b (j + 1)) * 2 ^ (j + 1) := by rw [Nat.mul_comm 2, Nat.mul_assoc, Nat.mul_comm 2, Nat.pow_succ]
      omega
    obtain ⟨i1, i2⟩ := best_row j (2 * (k - b (j + 1))) b (fun i hi => hb i (by omega)) h2
    have hbl := hb (j + 1) (Nat.le_refl _)
    have hk : k ≤ (lev node L (j + 1)).length := by rw [lev_length]; omega
    refine ⟨hk, ?_⟩
    have hS := low (R := lev node L (j + 1)) (S := L.take (b (j + 1)) ++ (prs node (lev node L j)).take (k - b (j + 1))) (T := L.drop (b (j + 1)) ++ (prs node (lev node L j)).drop (k - b (j + 1))) (lev_srt node L hL (j + 1)) (by
      refine (mrg_perm _ _).trans ?_
      obtain ⟨Q, hQ⟩ : ∃ Q, prs node (lev node L j) = Q := ⟨_, rfl⟩
      rw [hQ]
      conv => lhs; rw [← List.take_append_drop (b (j + 1)) L, ← List.take_append_drop (k - b (j + 1)) Q]
      rw [List.append_assoc, List.append_assoc]
      refine List.Perm.append_left _ ?_
      rw [← List.append_assoc, ← List.append_assoc]
      exact List.perm_append_comm.append_right _)
    rw [List.length_append, List.length_take, List.length_take, prs_length, show min (b (j + 1)) L.length + min (k - b (j + 1)) ((lev node L j).length / 2) = k by omega, tot_append, prs_tot node (·.1) (fun x y => rfl) _ _ i1] at hS
    omega
end
end Go.Proofs.Ytciejmlhdmjajaa

