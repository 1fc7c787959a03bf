/- The least weight of whole lengths, by trying all of them: what platenref06's Best finds is what package-merge finds. Best's answer is the weight of package-merge's lengths. PackNone: its walk. platenref06's Best: its walk. -/
import Derived.Test.YtciejmlhdmjajaaKPn
import Derived.Deep.RegionHeld3
import Derived.Deep.AppendLies
namespace Go.Proofs.Ytciejmlhdmjajaa
open Go.RowKit
set_option linter.unusedVariables false
set_option linter.unusedSimpArgs false

/-- The less of two, where there are any. -/
def minO (a : Option Nat) : Option Nat → Option Nat
  | none => a
  | some x => match a with
    | none => some x
    | some y => if x < y then some x else some y
/-- The least of the first j ways. -/
def minTo (g : Nat → Option Nat) : Nat → Option Nat
  | 0 => none
  | j + 1 => minO (minTo g j) (g j)
theorem minTo_some (g : Nat → Option Nat) : ∀ j x, minTo g j = some x → ∃ i, i < j ∧ g i = some x
  | 0, x, h => by simp [minTo] at h
  | j + 1, x, h => by
    rw [minTo] at h
    cases hg : g j with
    | none =>
      rw [hg] at h
      obtain ⟨i, h1, h2⟩ := minTo_some g j x h
      exact ⟨i, by omega, h2⟩
    | some y =>
      rw [hg] at h
      cases hm : minTo g j with
      | none => rw [hm] at h; simp [minO] at h; subst h; exact ⟨j, by omega, hg⟩
      | some z =>
        rw [hm] at h
        simp only [minO] at h
        split at h
        · simp at h; subst h; exact ⟨j, by omega, hg⟩
        · simp at h; subst h
          obtain ⟨i, h1, h2⟩ := minTo_some g j z hm
          exact ⟨i, by omega, h2⟩
theorem minTo_le (g : Nat → Option Nat) : ∀ j i x, i < j → g i = some x → ∃ y, minTo g j = some y ∧ y ≤ x
  | 0, i, x, h, _ => by omega
  | j + 1, i, x, h, hx => by
    rw [minTo]
    by_cases hij : i = j
    · subst hij
      rw [hx]
      cases hm : minTo g i with
      | none => exact ⟨x, rfl, Nat.le_refl _⟩
      | some z =>
        simp only [minO]
        by_cases hxz : x < z
        · rw [if_pos hxz]; exact ⟨x, rfl, Nat.le_refl _⟩
        · rw [if_neg hxz]; exact ⟨z, rfl, by omega⟩
    · obtain ⟨y, h1, h2⟩ := minTo_le g j i x (by omega) hx
      rw [h1]
      cases hg : g j with
      | none => exact ⟨y, rfl, h2⟩
      | some u =>
        simp only [minO]
        by_cases hu : u < y
        · rw [if_pos hu]; exact ⟨u, rfl, by omega⟩
        · rw [if_neg hu]; exact ⟨y, rfl, h2⟩
/-- The least weight of whole lengths from size on, of so many codes; f lengths are left. -/
def bestO : Nat → List Nat → Nat → Nat → Option Nat
  | 0, l, _, codes => if l.length = 0 ∧ codes = 0 then some 0 else none
  | f + 1, l, size, codes => if l.length = 0 ∧ codes = 0 then some 0 else if l.length < codes ∨ codes = 0 then none else
    minTo (fun j => (bestO f (l.drop j) (size + 1) (2 * (codes - j))).map (· + size * (l.take j).sum)) (codes + 1)
/-- What lengths weigh. -/
def dotN : List Nat → List Nat → Nat
  | a :: l, b :: m => a * b + dotN l m
  | _, _ => 0
theorem dotN_append : ∀ (a b c d : List Nat), a.length = c.length → dotN (a ++ b) (c ++ d) = dotN a c + dotN b d
  | [], b, [], d, _ => by simp [dotN]
  | [], b, x :: c, d, h => by simp at h
  | x :: a, b, [], d, h => by simp at h
  | x :: a, b, y :: c, d, h => by
    have := dotN_append a b c d (by simpa using h)
    simp only [List.cons_append, dotN, this]; omega
theorem dotN_same (s : Nat) : ∀ (l d : List Nat), d.length = l.length → (∀ x ∈ d, x = s) → dotN d l = s * l.sum
  | [], [], _, _ => by simp [dotN]
  | [], x :: d, h, _ => by simp at h
  | y :: l, [], h, _ => by simp at h
  | y :: l, x :: d, h, hs => by
    rw [dotN, dotN_same s l d (by simpa using h) (fun z hz => hs z (by simp [hz])), hs x (by simp), List.sum_cons, Nat.mul_add]
/-- What Best finds are whole lengths. -/
theorem best_is (limit : Nat) : ∀ (f : Nat) (l : List Nat) (size codes x : Nat), size + f = limit + 1 → bestO f l size codes = some x →
    ∃ d : List Nat, d.length = l.length ∧ (∀ y ∈ d, size ≤ y ∧ y ≤ limit) ∧ tot (fun y => 2 ^ (limit + 1 - y)) d = codes * 2 ^ (limit + 1 - size) ∧ x = dotN d l
  | 0, l, size, codes, x, hf, h => by
    rw [bestO] at h
    split at h
    · rename_i hc
      simp at h
      subst h
      have : l = [] := List.eq_nil_of_length_eq_zero hc.1
      subst this
      exact ⟨[], rfl, fun y hy => by simp at hy, by rw [hc.2]; simp [tot], rfl⟩
    · simp at h
  | f + 1, l, size, codes, x, hf, h => by
    rw [bestO] at h
    split at h
    · rename_i hc
      simp at h
      subst h
      have : l = [] := List.eq_nil_of_length_eq_zero hc.1
      subst this
      exact ⟨[], rfl, fun y hy => by simp at hy, by rw [hc.2]; simp [tot], rfl⟩
    · split at h
      · simp at h
      · rename_i hc2
        obtain ⟨j, hj, hg⟩ := minTo_some _ _ _ h
        rw [Option.map_eq_some_iff] at hg
        obtain ⟨x', hb, rfl⟩ := hg
        obtain ⟨d, d1, d2, d3, d4⟩ := best_is limit f (l.drop j) (size + 1) (2 * (codes - j)) x' (by omega) hb
        have hjl : j ≤ l.length := by omega
        rw [List.length_drop] at d1
        refine ⟨List.replicate j size ++ d, by rw [List.length_append, List.length_replicate, d1]; omega, ?_, ?_, ?_⟩
        · intro y hy
          rcases List.mem_append.1 hy with hy | hy
          · have := List.eq_of_mem_replicate hy; omega
          · have := d2 y hy; omega
        · rw [tot_append, d3]
          have e1 : tot (fun y => 2 ^ (limit + 1 - y)) (List.replicate j size) = j * 2 ^ (limit + 1 - size) := by
            rw [tot_congr _ (fun _ => 2 ^ (limit + 1 - size)) _ (fun y hy => by rw [List.eq_of_mem_replicate hy]), tot_const, List.length_replicate]
          have e2 : 2 * (codes - j) * 2 ^ (limit + 1 - (size + 1)) = (codes - j) * 2 ^ (limit + 1 - size) := by
            rw [show limit + 1 - size = limit + 1 - (size + 1) + 1 by omega, Nat.pow_succ, Nat.mul_comm 2, Nat.mul_assoc, Nat.mul_comm 2]
          rw [e1, e2, ← Nat.add_mul]
          congr 1; omega
        · conv => rhs; rw [← List.take_append_drop j l]
          rw [dotN_append _ _ _ _ (by rw [List.length_replicate, List.length_take]; omega), ← d4, dotN_same size _ _ (by rw [List.length_replicate, List.length_take]; omega) (fun y hy => List.eq_of_mem_replicate hy)]
          omega
/-- Best finds none that weighs more than lengths that do not fall. -/
theorem best_least (limit : Nat) : ∀ (f : Nat) (l d : List Nat) (size codes : Nat), size + f = limit + 1 → d.length = l.length → d.Pairwise (· ≤ ·) → (∀ y ∈ d, size ≤ y ∧ y ≤ limit) → tot (fun y => 2 ^ (limit + 1 - y)) d = codes * 2 ^ (limit + 1 - size) →
    ∃ x, bestO f l size codes = some x ∧ x ≤ dotN d l
  | f, [], d, size, codes, hf, hd, hp, hb, hk => by
    have : d = [] := List.eq_nil_of_length_eq_zero hd
    subst this
    simp only [tot] at hk
    have hc : codes = 0 := by
      rcases Nat.eq_zero_or_pos codes with h | h
      · exact h
      · have := Nat.mul_pos h (Nat.two_pow_pos (limit + 1 - size)); omega
    subst hc
    cases f <;> exact ⟨0, by simp [bestO], by simp⟩
  | 0, c :: l, d, size, codes, hf, hd, hp, hb, hk => by
    cases d with
    | nil => simp at hd
    | cons y d => have := hb y (by simp); omega
  | f + 1, c :: l, d, size, codes, hf, hd, hp, hb, hk => by
    have hpos : 0 < 2 ^ (limit + 1 - size) := Nat.two_pow_pos _
    have hle : codes ≤ (c :: l).length := by
      have : tot (fun y => 2 ^ (limit + 1 - y)) d ≤ d.length * 2 ^ (limit + 1 - size) := by
        rw [← tot_const]
        exact tot_le _ _ _ fun y hy => Nat.pow_le_pow_right (by decide) (by have := hb y hy; omega)
      rw [hk, hd] at this
      exact Nat.le_of_mul_le_mul_right this hpos
    have hc0 : codes ≠ 0 := by
      intro h
      rw [h] at hk
      cases d with
      | nil => simp at hd
      | cons y d => simp only [tot] at hk; have := Nat.two_pow_pos (limit + 1 - y); omega
    -- those of this size are ahead
    obtain ⟨j, hj, h1, h2⟩ : ∃ j, j ≤ d.length ∧ (∀ y ∈ d.take j, y = size) ∧ ∀ y ∈ d.drop j, size + 1 ≤ y := by
      have : ∀ d : List Nat, d.Pairwise (· ≤ ·) → (∀ y ∈ d, size ≤ y) → ∃ j, j ≤ d.length ∧ (∀ y ∈ d.take j, y = size) ∧ ∀ y ∈ d.drop j, size + 1 ≤ y := by
        intro d
        induction d with
        | nil => intro _ _; exact ⟨0, Nat.le_refl _, fun y hy => by simp at hy, fun y hy => by simp at hy⟩
        | cons z d ih =>
          intro hp hs
          have hp2 := List.pairwise_cons.1 hp
          by_cases hz : z = size
          · obtain ⟨j, j1, j2, j3⟩ := ih hp2.2 (fun y hy => hs y (by simp [hy]))
            refine ⟨j + 1, by simp; omega, fun y hy => ?_, fun y hy => j3 y (by simpa using hy)⟩
            rw [List.take_succ_cons] at hy
            rcases List.mem_cons.1 hy with rfl | hy
            · exact hz
            · exact j2 y hy
          · refine ⟨0, Nat.zero_le _, fun y hy => by simp at hy, fun y hy => ?_⟩
            have hzs := hs z (by simp)
            rw [List.drop_zero] at hy
            rcases List.mem_cons.1 hy with rfl | hy
            · omega
            · have := hp2.1 y hy; omega
      exact this d hp fun y hy => (hb y hy).1
    have e1 : tot (fun y => 2 ^ (limit + 1 - y)) (d.take j) = j * 2 ^ (limit + 1 - size) := by
      rw [tot_congr _ (fun _ => 2 ^ (limit + 1 - size)) _ (fun y hy => by rw [h1 y hy]), tot_const, List.length_take, Nat.min_eq_left hj]
    have hk2 : tot (fun y => 2 ^ (limit + 1 - y)) (d.take j) + tot (fun y => 2 ^ (limit + 1 - y)) (d.drop j) = codes * 2 ^ (limit + 1 - size) := by
      rw [← tot_append, List.take_append_drop, hk]
    have hjc : j ≤ codes := by
      refine Nat.le_of_mul_le_mul_right ?_ hpos
      omega
    have e3 : tot (fun y => 2 ^ (limit + 1 - y)) (d.drop j) = 2 * (codes - j) * 2 ^ (limit + 1 - (size + 1)) := by
      have : 2 * (codes - j) * 2 ^ (limit + 1 - (size + 1)) = (codes - j) * 2 ^ (limit + 1 - size) := by
        rw [show limit + 1 - size = limit + 1 - (size + 1) + 1 by omega, Nat.pow_succ, Nat.mul_comm 2, Nat.mul_assoc, Nat.mul_comm 2]
      rw [this]
      have : codes * 2 ^ (limit + 1 - size) = j * 2 ^ (limit + 1 - size) + (codes - j) * 2 ^ (limit + 1 - size) := by rw [← Nat.add_mul]; congr 1; omega
      omega
    obtain ⟨x, b1, b2⟩ := best_least limit f ((c :: l).drop j) (d.drop j) (size + 1) (2 * (codes - j)) (by omega) (by rw [List.length_drop, List.length_drop, hd]) (hp.sublist (List.drop_sublist _ _)) (fun y hy => ⟨h2 y hy, (hb y (List.mem_of_mem_drop hy)).2⟩) e3
    obtain ⟨y, y1, y2⟩ := minTo_le (fun j => (bestO f ((c :: l).drop j) (size + 1) (2 * (codes - j))).map (· + size * ((c :: l).take j).sum)) (codes + 1) j (x + size * ((c :: l).take j).sum) (by omega) (by simp only [b1]; rfl)
    refine ⟨y, ?_, ?_⟩
    · rw [bestO, if_neg (by simp), if_neg (by omega)]
      exact y1
    · refine Nat.le_trans y2 ?_
      have : dotN d (c :: l) = dotN (d.take j) ((c :: l).take j) + dotN (d.drop j) ((c :: l).drop j) := by
        rw [← dotN_append _ _ _ _ (by rw [List.length_take, List.length_take, hd]), List.take_append_drop, List.take_append_drop]
      rw [this, dotN_same size _ _ (by rw [List.length_take, List.length_take, hd]) h1]
      omega
end Go.Proofs.Ytciejmlhdmjajaa
namespace Go.Proofs.Ytciejmlhdmjajaa
open Go.RowKit
set_option linter.unusedVariables false
set_option linter.unusedSimpArgs false

/-- Who comes later in the row has no longer one. -/
theorem lens_rank (l : List Int) (M : Nat) (h1 : 1 ≤ M) (hr : (sortC l).length ≤ 2 ^ M) (h2 : 2 ≤ (sortC l).length) (i k : Nat) (p q : Nat × Nat) (hi : (sortC l)[i]? = some p) (hk : (sortC l)[k]? = some q) (hik : i ≤ k) : lenS l M q.2 ≤ lenS l M p.2 := by
  obtain ⟨j, rfl⟩ : ∃ j, M = j + 1 := ⟨M - 1, by omega⟩
  obtain ⟨hroom, _⟩ := pm symP PT.node occ (fun _ _ _ => rfl) ((sortC l).map leafP) (occ_leafP _) (sortC_srt l) (sortC_dst l) j (by simpa using h2) (by simpa using hr)
  obtain ⟨a, a1, a2, a3, _, _⟩ := len_shape symP PT.node occ (fun _ _ _ => rfl) ((sortC l).map leafP) (occ_leafP _) (sortC_srt l) j _ hroom
  have e : ∀ s, lenS l (j + 1) s = sumTo (fun i => kap symP (((sortC l).map leafP).take (a i)) s) j := fun s => by
    unfold lenS lensN lenOf; rw [if_neg (by omega), Nat.add_sub_cancel]; exact a3 s
  have hpi : ((sortC l).map leafP)[i]? = some (leafP p) := by rw [List.getElem?_map, hi]; rfl
  have hqk : ((sortC l).map leafP)[k]? = some (leafP q) := by rw [List.getElem?_map, hk]; rfl
  rw [e, e]
  refine sumTo_le _ _ _ fun t _ => ?_
  rw [show p.2 = symP (leafP p).2 from rfl, show q.2 = symP (leafP q).2 from rfl, kap_get symP _ _ i _ (sortC_dst l) hpi, kap_get symP _ _ k _ (sortC_dst l) hqk]
  by_cases h : k < a t
  · rw [if_pos h, if_pos (by omega)]; exact Nat.le_refl _
  · rw [if_neg h]; exact Nat.zero_le _
theorem dotN_rev : ∀ (a b : List Nat), a.length = b.length → dotN a.reverse b.reverse = dotN a b
  | [], [], _ => rfl
  | [], x :: b, h => by simp at h
  | x :: a, [], h => by simp at h
  | x :: a, y :: b, h => by
    have h' : a.length = b.length := by simpa using h
    rw [List.reverse_cons, List.reverse_cons, dotN_append _ _ _ _ (by simpa using h'), dotN_rev a b h']
    simp only [dotN]; omega
theorem dotN_map {β : Type} (f g : β → Nat) : ∀ S : List β, dotN (S.map f) (S.map g) = tot (fun p => g p * f p) S
  | [] => rfl
  | p :: S => by rw [List.map_cons, List.map_cons, dotN, dotN_map f g S]; simp only [tot]; rw [Nat.mul_comm]
theorem cntL_all : ∀ (xs : List Int) (s : Nat), (∀ x ∈ xs, 0 < x) → (cntL s xs).map (·.1) = xs.map Int.toNat
  | [], s, _ => rfl
  | c :: xs, s, h => by
    rw [cntL, if_pos (h c (by simp)), List.map_cons, List.map_cons, cntL_all xs (s + 1) (fun x hx => h x (by simp [hx]))]
theorem best_pm (l : List Int) (fl : List Nat) (M : Nat) (h1 : 1 ≤ M) (hpos : ∀ x ∈ l, 0 < x) (hlen : 2 ≤ l.length) (hp : fl.Perm (l.map Int.toNat)) (hs : fl.Pairwise (· ≥ ·)) :
    bestO M fl 1 2 = if l.length ≤ 2 ^ M then some (weighN (lensL l M) l) else none := by
  have hSp : ((sortC l).map (·.1)).Perm (l.map Int.toNat) := by
    rw [← cntL_all l 0 hpos]; exact (sortC_perm l).map _
  have hSl : (sortC l).length = l.length := by
    have := hSp.length_eq
    rwa [List.length_map, List.length_map] at this
  have hfl : fl = ((sortC l).map (·.1)).reverse := by
    refine List.Perm.eq_of_pairwise (le := (· ≥ ·)) (fun a b _ _ h1 h2 => Nat.le_antisymm h2 h1) hs ?_ ((hp.trans hSp.symm).trans (List.reverse_perm _).symm)
    rw [List.pairwise_reverse]
    have := sortC_srt l
    unfold srt at this
    rw [List.pairwise_map] at this ⊢
    exact this
  have lower : ∀ x, bestO M fl 1 2 = some x → l.length ≤ 2 ^ M ∧ weighN (lensL l M) l ≤ x := by
    intro x hx
    obtain ⟨d, d1, d2, d3, d4⟩ := best_is M M fl 1 2 x (by omega) hx
    have hdl : d.length = l.length := by rw [d1, hp.length_eq, List.length_map]
    have hroom : l.length ≤ 2 ^ M := by
      have : tot (fun _ => 2) d ≤ tot (fun y => 2 ^ (M + 1 - y)) d := tot_le _ _ _ fun y hy => by
        have := d2 y hy
        have : 2 ^ 1 ≤ 2 ^ (M + 1 - y) := Nat.pow_le_pow_right (by decide) (by omega)
        simpa using this
      rw [tot_const, d3, hdl, Nat.add_sub_cancel] at this
      omega
    refine ⟨hroom, ?_⟩
    obtain ⟨_, _, _, _, q5⟩ := lens_pm l M h1 (by omega) (by omega)
    unfold lensL
    rw [weigh_sortC]
    obtain ⟨ℓ, hℓ⟩ : ∃ ℓ : Nat → Nat, ℓ = fun s => d.reverse.getD ((sortC l).findIdx (fun q => q.2 == s)) 0 := ⟨_, rfl⟩
    have hmap : (sortC l).map (fun p => ℓ p.2) = d.reverse := by
      apply List.ext_getElem?
      intro i
      by_cases hi : i < (sortC l).length
      · have hfi : (sortC l).findIdx (fun q => q.2 == (sortC l)[i].2) = i := by
          rw [List.findIdx_eq hi]
          refine ⟨by simp, fun k hk => ?_⟩
          have hd := sortC_dst l
          unfold dst at hd
          rw [List.pairwise_map, List.pairwise_iff_getElem] at hd
          have := hd k i (by omega) hi hk
          simp only [leafP, symP] at this
          simpa using this
        rw [List.getElem?_map, List.getElem?_eq_getElem hi, Option.map_some, hℓ]
        simp only
        rw [hfi, List.getD_eq_getElem?_getD, List.getElem?_eq_getElem (by rw [List.length_reverse]; omega), Option.getD_some]
      · rw [List.getElem?_eq_none (by simp; omega), List.getElem?_eq_none (by simp; omega)]
    have hmem : ∀ p ∈ sortC l, ℓ p.2 ∈ d := fun p hp => by
      have : ℓ p.2 ∈ (sortC l).map fun p => ℓ p.2 := List.mem_map.2 ⟨p, hp, rfl⟩
      rw [hmap] at this
      simpa using this
    have := q5 ℓ (fun p hp => d2 _ (hmem p hp)) (by
      have e : tot (fun p : Nat × Nat => 2 ^ (M - ℓ p.2)) (sortC l) = tot (fun y => 2 ^ (M - y)) d := by
        rw [← tot_map (fun y => 2 ^ (M - y)) (fun p : Nat × Nat => ℓ p.2), hmap, tot_perm _ (List.reverse_perm d)]
      have e2 : tot (fun y => 2 ^ (M + 1 - y)) d = tot (fun y => 2 ^ (M - y)) d * 2 := by
        rw [← tot_mul]
        exact tot_congr _ _ _ fun y hy => by
          have := d2 y hy
          rw [show M + 1 - y = M - y + 1 by omega, Nat.pow_succ]
      rw [e]
      rw [e2, Nat.add_sub_cancel] at d3
      omega)
    refine Nat.le_trans this (Nat.le_of_eq ?_)
    rw [d4, hfl, ← dotN_map (fun p : Nat × Nat => ℓ p.2) (·.1), hmap]
    have e := dotN_rev d.reverse ((sortC l).map (·.1)) (by rw [List.length_reverse, List.length_map]; omega)
    rw [List.reverse_reverse] at e
    exact e.symm
  by_cases hroom : l.length ≤ 2 ^ M
  · rw [if_pos hroom]
    obtain ⟨q1, _, _, q4, _⟩ := lens_pm l M h1 (by omega) (by omega)
    have hd : ((sortC l).map fun p => lenS l M p.2).reverse.Pairwise (· ≤ ·) := by
      rw [List.pairwise_reverse, List.pairwise_map, List.pairwise_iff_getElem]
      intro i j hi hj hij
      exact lens_rank l M h1 (by omega) (by omega) i j _ _ (List.getElem?_eq_getElem hi) (List.getElem?_eq_getElem hj) (by omega)
    obtain ⟨x, b1, b2⟩ := best_least M M fl ((sortC l).map fun p => lenS l M p.2).reverse 1 2 (by omega) (by rw [hfl]; simp) hd (fun y hy => by
      rw [List.mem_reverse] at hy
      obtain ⟨p, hp, rfl⟩ := List.mem_map.1 hy
      exact q1 p hp) (by
      rw [tot_perm _ (List.reverse_perm _), tot_map, Nat.add_sub_cancel, ← q4, Nat.mul_comm, ← tot_mul]
      exact tot_congr _ _ _ fun p hp => by
        have := q1 p hp
        rw [show M + 1 - lenS l M p.2 = M - lenS l M p.2 + 1 by omega, Nat.pow_succ])
    rw [b1]
    congr 1
    refine Nat.le_antisymm ?_ (lower x b1).2
    refine Nat.le_trans b2 (Nat.le_of_eq ?_)
    unfold lensL
    rw [weigh_sortC, hfl, dotN_rev _ _ (by simp), dotN_map]
  · rw [if_neg hroom]
    cases hb : bestO M fl 1 2 with
    | none => rfl
    | some x => exact absurd (lower x hb).1 hroom
end Go.Proofs.Ytciejmlhdmjajaa
namespace Go.Proofs.Ytciejmlhdmjajaa
open Go.RowKit
set_option linter.unusedVariables false
set_option linter.unusedSimpArgs false

theorem elemI : Elem Try.prog 63 3 1 8 := by
  refine ⟨Try.underlying63, ?_⟩
  obtain ⟨i0, hi, hz0, hz1, hz2⟩ := info_parts (show (Try.prog.info? 3).map (fun i => (i.zero, i.size, i.bytes)) = some (some (.int .i64 0), 1, 8) by kernel_rfl)
  exact ⟨i0, _, hi, hz0, hz1, hz2, rfl, by decide⟩
/-- 'append(row, xs...)' at a step of a region that draws; the row is the call's own, xs may be empty. -/
theorem step_catz {wo W : World} {ops : Array Oper} {o : Oper} {a : Act} {K : Act → World → Prop} {Q : Exit → Act → World → Prop} {X : Prop} (hgd : o.guard = none) (s x : Operand)
    (ho : o.op = .call { callee := .builtin .append, args := #[s, x], argTypes := #[63, 63] })
    (N n c0 : Nat) (xs : List Value) (hs : a.eval s = .slice (some ⟨N, 0, none⟩) n c0) (hown : W.ownsRow wo.heap.size 3 1 (.slice (some ⟨N, 0, none⟩) n c0) n xs) (hfr : Fr [] wo W)
    (ad : Addr) (m c : Nat) (news : List Value) (hx : a.eval x = .slice (some ad) m c) (hl : news.length = m) (hnews : ∀ j u, news[j]? = some u → W.cell? (ad.add j) = some u) (h1 : ∀ u ∈ news, u.oneCell' = true)
    (nm : Nat) (hnm : n + m = nm) (hnm2 : nm ≤ 1000)
    (h : ∀ g cap w', Hid (w'.ownsRow wo.heap.size 3 1 (.slice (some ⟨g, 0, none⟩) nm cap) nm (xs ++ news) ∧ W.grownBy w' (some N) ∧ Fr [] wo w') → K (a.put o.dst (.slice (some ⟨g, 0, none⟩) nm cap)) w') :
    if Region.wanted o (yielded ops a.tmps) = true then Oper.wp Try.prog o a W K Q else X := by
  subst hnm
  have hw : Region.wanted o (yielded ops a.tmps) = true := by simp [Region.wanted, hgd]
  rw [if_pos hw]
  obtain ⟨ht, i, z, hi, hz, hsz, hby, hzs, hpos⟩ := elemI
  have hlt := hown.lt N rfl
  refine wp_append_own W s x 63 ho wo.heap.size 3 i z 1 8 ht hi hz hsz hby hzs hpos _ n xs hs hown ad m c news hx (by omega) hnews h1 (by unfold maxLen; omega) (by omega) (by omega) ?_
  intro v' w' k1 k2 k3
  rcases k1.2 with ⟨hv, _⟩ | ⟨g, cap, cur, hv, _⟩
  · have := (k3.1 hv).1; simp at this
  · subst hv
    have hsz := hfr.size
    exact h g cap w' (Lib.hid ⟨k1, k2, k2.os.trans hfr.os, k2.tape.trans hfr.tape, k2.output.trans hfr.output, Nat.le_trans hfr.size k2.size, fun k hk _ => (k2.block k (by omega) (by simp [Value.ownBlock]; omega)).trans (hfr.block k hk (by simp))⟩)
theorem own_empty {w : World} {B N : Nat} (h : w.heap[N]? = some (.cells #[] 3 (0, 0))) (hB : B ≤ N) : w.ownsRow B 3 1 (.slice (some ⟨N, 0, none⟩) 0 0) 0 [] :=
  ⟨rfl, .inr ⟨N, 0, #[], rfl, hB, h, Nat.le_refl _, by unfold maxLen; omega, rfl, rfl⟩⟩
/-- A part of a row of numbers, as what is appended. -/
theorem news_irow {w : World} {g n o m : Nat} {F : Nat → Nat} (h : Nrow w g 3 .i64 n F) (hm : o + m ≤ n) : ∀ j u, ((List.range m).map fun i => Value.int .i64 (F (o + i) : Int))[j]? = some u → w.cell? ((⟨g, o, none⟩ : Addr).add j) = some u := fun j u hu => by
  have hj : j < m := by have := (List.getElem?_eq_some_iff.1 hu).1; simpa using this
  rw [add_none, h.cell (o + j) (by omega), ← hu, List.getElem?_map, List.getElem?_range hj]
  rfl
theorem one_irow (m o : Nat) (F : Nat → Nat) : ∀ u ∈ (List.range m).map fun i => Value.int .i64 (F (o + i) : Int), u.oneCell' = true := by
  intro u hu
  obtain ⟨i, _, rfl⟩ := List.mem_map.1 hu
  rfl
/-- The counts' row is as it was, and nothing that was there has turned. -/
def SS (wo : World) (gc n : Nat) (F : Nat → Nat) (w : World) : Prop := Nrow w gc 3 .i64 n F ∧ Fr [] wo w
theorem SS.alloc {wo : World} {gc n : Nat} {F : Nat → Nat} {w : World} {o : Obj} (h : SS wo gc n F w) : SS wo gc n F (w.alloc o) := ⟨h.1.to (Fr.alloc [] w o) (by simp), h.2.trans (Fr.alloc _ _ _)⟩
theorem SS.drew {wo : World} {gc n : Nat} {F : Nat → Nat} {w : World} (h : SS wo gc n F w) : SS wo gc n F w.drew := ⟨h.1.to (Fr.drew (Fr.refl [] w)) (by simp), h.2.drew⟩
theorem SS.grow {wo : World} {gc n : Nat} {F : Nat → Nat} {w w' : World} {N : Nat} (h : SS wo gc n F w) (hgc : gc < wo.heap.size) (hg : w.grownBy w' (some N)) (hN : wo.heap.size ≤ N) : SS wo gc n F w' := by
  have hsz := h.2.size
  refine ⟨?_, hg.os.trans h.2.os, hg.tape.trans h.2.tape, hg.output.trans h.2.output, Nat.le_trans h.2.size hg.size, fun k hk _ => (hg.block k (by omega) (by simp; omega)).trans (h.2.block k hk (by simp))⟩
  unfold Nrow
  rw [hg.block gc (by omega) (by simp; omega)]
  exact h.1
theorem blk_grow {w w' : World} {N b : Nat} {o : Obj} (hg : w.grownBy w' (some N)) (hb : w.heap[b]? = some o) (hne : b ≠ N) : w'.heap[b]? = some o := by
  rw [hg.block b (lt_of hb) (by simpa using hne)]; exact hb
/-- What holds at the head of a round of the loop that fills the counts. -/
def FillN (w : World) (gc n : Nat) (F : Nat → Nat) (v9 : Value) (wr : World) : Prop :=
  ∃ j : Nat, v9 = .int .i64 (j : Int) ∧ j ≤ n ∧ Nrow wr gc 3 .i64 n (fun s => if s < j then F s else 0) ∧ Fr [] w wr
/-- The counts, one put in that does not count. -/
def PutMade (wo : World) (l : List Int) (n1 : Nat) (v11 : Value) (wx : World) : Prop :=
  ∃ gm cm, v11 = .slice (some ⟨gm, 0, none⟩) n1 cm ∧ l.length = n1 ∧ SlOf (Zn .i64) 1 wx (some ⟨gm, 0, none⟩) l ∧ Fr [] wo wx
theorem put_len (l : List Int) (k : Nat) (hk : k ≤ l.length) : (l.take k ++ 0 :: l.drop k).length = l.length + 1 := by
  rw [List.length_append, List.length_cons, List.length_take, List.length_drop]; omega
theorem putMade_of {wo w : World} {F : Nat → Nat} {n k m g cap n1 : Nat} {xs : List Value} (hk : k ≤ n) (hm : m = n - k) (hn1 : n + 1 = n1) (h : w.ownsRow wo.heap.size 3 1 (.slice (some ⟨g, 0, none⟩) n1 cap) n1 xs)
    (hx : xs = (([] ++ (List.range k).map fun i => Value.int .i64 (F (0 + i) : Int)) ++ [.int .i64 0]) ++ (List.range m).map fun i => Value.int .i64 (F (k + i) : Int)) (hf : Fr [] wo w) : PutMade wo ((ctL F n).take k ++ 0 :: (ctL F n).drop k) n1 (.slice (some ⟨g, 0, none⟩) n1 cap) w := by
  subst hm
  have hlen : ((ctL F n).take k ++ 0 :: (ctL F n).drop k).length = n1 := by rw [put_len _ _ (by rw [ctL_len]; exact hk), ctL_len, hn1]
  have hfl : xs = ((ctL F n).take k ++ 0 :: (ctL F n).drop k).flatMap (Zn .i64) := by
    have e : ctL F n = (List.range k).map (fun i => (F (0 + i) : Int)) ++ (List.range (n - k)).map fun i => (F (k + i) : Int) := by
      unfold ctL
      conv => lhs; rw [show n = k + (n - k) by omega, List.range_add, List.map_append, List.map_map]
      congr 1
      exact List.map_congr_left fun i _ => by rw [Nat.zero_add]
    have e1 : (ctL F n).take k = (List.range k).map (fun i => (F (0 + i) : Int)) := by rw [e, List.take_left' (by simp)]
    have e2 : (ctL F n).drop k = (List.range (n - k)).map fun i => (F (k + i) : Int) := by rw [e, List.drop_left' (by simp)]
    rw [hx, e1, e2, List.flatMap_append, List.flatMap_cons, List.flatMap_map, List.flatMap_map, List.nil_append, List.append_assoc]
    have hg : ∀ (f : Nat → Int) (l : List Nat), l.flatMap (fun i => Zn .i64 (f i)) = l.map fun i => Value.int .i64 (f i) := by
      intro f l
      induction l with
      | nil => rfl
      | cons x l ih => rw [List.flatMap_cons, List.map_cons, ih]; rfl
    rw [hg (fun i => (F (0 + i) : Int)), hg (fun i => (F (k + i) : Int))]
    rfl
  subst hfl
  obtain ⟨a0, c, h1, h2⟩ := slOf_own (enc := Zn .i64) (fun _ => rfl) h hlen.symm
  simp at h1
  obtain ⟨rfl, _, rfl⟩ := h1
  exact ⟨g, cap, rfl, hlen, h2, hf⟩
/-- pack.Lens, of counts among which one is put that does not count. -/
theorem lens_put_row (g n k n1 cp M : Nat) (F : Nat → Nat) (w : World) (hS : SlOf (Zn .i64) 1 w (some ⟨g, 0, none⟩) ((ctL F n).take k ++ 0 :: (ctL F n).drop k)) (hlen : ((ctL F n).take k ++ 0 :: (ctL F n).drop k).length = n1) (hk : k ≤ n) (hn : n ≤ 300) (hF : ∀ i, i < n → F i ≤ 1073741824) (h1 : 1 ≤ M) (h2 : M ≤ 15) :
    Calls Try.prog 27 #[.slice (some ⟨g, 0, none⟩) n1 cp, .int .i64 (M : Int)] w fun e w' => Fr [] w w' ∧ (M < needN (posN F n : Int) ∧ e = .returned (.tuple #[.slice none 0 0, .int .i64 2]) ∨ needN (posN F n : Int) ≤ M ∧ ∃ gl, e = .returned (.tuple #[.slice (some ⟨gl, 0, none⟩) n1 n1, .int .i64 0]) ∧ w.heap.size ≤ gl ∧ Nrow w' gl 5 .u8 n1 (lenS ((ctL F n).take k ++ 0 :: (ctL F n).drop k) M)) := by
  have hk' : k ≤ (ctL F n).length := by rw [ctL_len]; exact hk
  have hl := put_len (ctL F n) k hk'
  rw [ctL_len] at hl
  have hgood : ¬ badC ((ctL F n).take k ++ 0 :: (ctL F n).drop k) := badC_not (by omega) fun x hx => by
    rcases List.mem_append.1 hx with hx | hx
    · have := ctL_mem hF x (List.mem_of_mem_take hx); omega
    · rcases List.mem_cons.1 hx with rfl | hx
      · omega
      · have := ctL_mem hF x (List.mem_of_mem_drop hx); omega
  have hiff : badP ((ctL F n).take k ++ 0 :: (ctL F n).drop k) (M : Int) ↔ M < needN (posN F n : Int) := by
    unfold badP
    rw [sortC_put _ k hk', List.length_map, ← posN_sort]
    constructor
    · rintro (h' | h' | h' | h')
      · exact absurd h' hgood
      · omega
      · omega
      · omega
    · intro h'; exact .inr (.inr (.inr (by omega)))
  have h := lens_any (some ⟨g, 0, none⟩) cp ((ctL F n).take k ++ 0 :: (ctL F n).drop k) (M : Int) w hS (by omega) (by omega) (by omega)
  rw [hlen, Int.toNat_natCast] at h
  refine h.mono fun e w' ⟨k1, k2⟩ => ⟨k1, ?_⟩
  rcases k2 with ⟨k2, k3⟩ | ⟨k2, k3⟩
  · exact .inl ⟨hiff.1 k2, k3⟩
  · rw [hiff] at k2
    exact .inr ⟨by omega, k3⟩
theorem keep17 {w3 W : World} {gb k z : Nat} (h : Hid (w3.cell? ⟨gb, k, none⟩ = some (.int .u8 (z : Int)) ∧ gb < w3.heap.size)) (f : Fr [] w3 W) : Fr [] w3 W ∧ W.cell? ⟨gb, k, none⟩ = some (.int .u8 (z : Int)) :=
  ⟨f, by rw [f.below.cell (p := ⟨gb, k, none⟩) h.out.2]; exact h.out.1⟩
theorem sl_part {w : World} {g n o m : Nat} {F : Nat → Nat} (h : Nrow w g 5 .u8 n F) (hm : o + m ≤ n) : SlOf U8 1 w (some ⟨g, o, none⟩) ((List.range m).map fun i => F (o + i)) := fun _ => by
  refine ⟨g, o, rfl, lt_of h, fun i x hi j u hu => ?_⟩
  have hj : j = 0 := by
    have := (List.getElem?_eq_some_iff.1 hu).1
    simp [U8] at this
    exact this
  subst hj
  have hin : i < m := by have := (List.getElem?_eq_some_iff.1 hi).1; simpa using this
  rw [List.getElem?_map, List.getElem?_range hin] at hi
  simp at hi
  subst hi
  rw [Nat.mul_one, Nat.add_zero, h.cell (o + i) (by omega), ← hu]
  rfl
end Go.Proofs.Ytciejmlhdmjajaa
namespace Go.Proofs.Ytciejmlhdmjajaa
open Go.RowKit
set_option linter.unusedVariables false
set_option linter.unusedSimpArgs false

/-- -1: there is none. -/
def encO : Option Nat → Int
  | none => -1
  | some x => (x : Int)
theorem dotN_le (A B : Nat) : ∀ (d l : List Nat), (∀ x ∈ d, x ≤ A) → (∀ x ∈ l, x ≤ B) → dotN d l ≤ l.length * (A * B)
  | [], l, _, _ => by simp [dotN]
  | a :: d, [], _, _ => by simp [dotN]
  | a :: d, b :: l, h, k => by
    have ih := dotN_le A B d l (fun x hx => h x (by simp [hx])) (fun x hx => k x (by simp [hx]))
    have : a * b ≤ A * B := Nat.mul_le_mul (h a (by simp)) (k b (by simp))
    simp only [dotN, List.length_cons, Nat.add_mul]; omega
theorem best_bound {limit f size codes x : Nat} {l : List Nat} (hf : size + f = limit + 1) (hl : l.length ≤ 10) (hb : ∀ y ∈ l, y ≤ 65536) (hlim : limit ≤ 10) (h : bestO f l size codes = some x) : x ≤ 6553600 := by
  obtain ⟨d, _, d2, _, rfl⟩ := best_is limit f l size codes x hf h
  have := dotN_le 10 65536 d l (fun y hy => by have := d2 y hy; omega) hb
  have : l.length * (10 * 65536) ≤ 10 * (10 * 65536) := Nat.mul_le_mul_right _ hl
  omega
theorem sum_take_le (B : Nat) : ∀ (l : List Nat) (j : Nat), (∀ x ∈ l, x ≤ B) → (l.take j).sum ≤ l.length * B
  | [], j, _ => by simp
  | b :: l, 0, _ => by simp
  | b :: l, j + 1, h => by
    have := sum_take_le B l j (fun x hx => h x (by simp [hx]))
    have := h b (by simp)
    rw [List.take_succ_cons, List.sum_cons, List.length_cons, Nat.add_mul]; omega
/-- What holds at the head of a round of Best's loop. -/
def BestR (g : Nat → Option Nat) (l : List Nat) (size codes : Nat) (w : World) (v12 v13 v14 : Value) (wr : World) : Prop :=
  ∃ j s b, v12 = .int .i64 b ∧ encO (minTo g j) = b ∧ v13 = .int .i64 ((s : Nat) : Int) ∧ s = size * (l.take j).sum ∧ v14 = .int .i64 ((j : Nat) : Int) ∧ j ≤ codes + 1 ∧ wr = w
end Go.Proofs.Ytciejmlhdmjajaa

