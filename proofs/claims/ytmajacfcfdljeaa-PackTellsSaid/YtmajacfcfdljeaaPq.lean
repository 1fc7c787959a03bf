/- Best's answer is the weight of package-merge's lengths. -/
import Derived.Test.YtmajacfcfdljeaaPp
namespace Go.Proofs.Ytmajacfcfdljeaa
open Go.RowKit
set_option linter.unusedVariables false
set_option linter.unusedSimpArgs false

/-- Who comes later in the row has no longer one. -/
theorem lens_rank (l : List Int) (M : Nat) (h1 : 1 ≤ M) (hr : (sortC l).length ≤ 2 ^ M) (h2 : 2 ≤ (sortC l).length) (i k : Nat) (p q : Nat × Nat) (hi : (sortC l)[i]? = some p) (hk : (sortC l)[k]? = some q) (hik : i ≤ k) : lenS l M q.2 ≤ lenS l M p.2 := by
  obtain ⟨j, rfl⟩ : ∃ j, M = j + 1 := ⟨M - 1, by omega⟩
  obtain ⟨hroom, _⟩ := pm symP PT.node occ (fun _ _ _ => rfl) ((sortC l).map leafP) (occ_leafP _) (sortC_srt l) (sortC_dst l) j (by simpa using h2) (by simpa using hr)
  obtain ⟨a, a1, a2, a3, _, _⟩ := len_shape symP PT.node occ (fun _ _ _ => rfl) ((sortC l).map leafP) (occ_leafP _) (sortC_srt l) j _ hroom
  have e : ∀ s, lenS l (j + 1) s = sumTo (fun i => kap symP (((sortC l).map leafP).take (a i)) s) j := fun s => by
    unfold lenS lensN lenOf; rw [if_neg (by omega), Nat.add_sub_cancel]; exact a3 s
  have hpi : ((sortC l).map leafP)[i]? = some (leafP p) := by rw [List.getElem?_map, hi]; rfl
  have hqk : ((sortC l).map leafP)[k]? = some (leafP q) := by rw [List.getElem?_map, hk]; rfl
  rw [e, e]
  refine sumTo_le _ _ _ fun t _ => ?_
  rw [show p.2 = symP (leafP p).2 from rfl, show q.2 = symP (leafP q).2 from rfl, kap_get symP _ _ i _ (sortC_dst l) hpi, kap_get symP _ _ k _ (sortC_dst l) hqk]
  by_cases h : k < a t
  · rw [if_pos h, if_pos (by omega)]; exact Nat.le_refl _
  · rw [if_neg h]; exact Nat.zero_le _
theorem dotN_rev : ∀ (a b : List Nat), a.length = b.length → dotN a.reverse b.reverse = dotN a b
  | [], [], _ => rfl
  | [], x :: b, h => by simp at h
  | x :: a, [], h => by simp at h
  | x :: a, y :: b, h => by
    have h' : a.length = b.length := by simpa using h
    rw [List.reverse_cons, List.reverse_cons, dotN_append _ _ _ _ (by simpa using h'), dotN_rev a b h']
    simp only [dotN]; omega
theorem dotN_map {β : Type} (f g : β → Nat) : ∀ S : List β, dotN (S.map f) (S.map g) = tot (fun p => g p * f p) S
  | [] => rfl
  | p :: S => by rw [List.map_cons, List.map_cons, dotN, dotN_map f g S]; simp only [tot]; rw [Nat.mul_comm]
theorem cntL_all : ∀ (xs : List Int) (s : Nat), (∀ x ∈ xs, 0 < x) → (cntL s xs).map (·.1) = xs.map Int.toNat
  | [], s, _ => rfl
  | c :: xs, s, h => by
    rw [cntL, if_pos (h c (by simp)), List.map_cons, List.map_cons, cntL_all xs (s + 1) (fun x hx => h x (by simp [hx]))]
theorem best_pm (l : List Int) (fl : List Nat) (M : Nat) (h1 : 1 ≤ M) (hpos : ∀ x ∈ l, 0 < x) (hlen : 2 ≤ l.length) (hp : fl.Perm (l.map Int.toNat)) (hs : fl.Pairwise (· ≥ ·)) :
    bestO M fl 1 2 = if l.length ≤ 2 ^ M then some (weighN (lensL l M) l) else none := by
  have hSp : ((sortC l).map (·.1)).Perm (l.map Int.toNat) := by
    rw [← cntL_all l 0 hpos]; exact (sortC_perm l).map _
  have hSl : (sortC l).length = l.length := by
    have := hSp.length_eq
    rwa [List.length_map, List.length_map] at this
  have hfl : fl = ((sortC l).map (·.1)).reverse := by
    refine List.Perm.eq_of_pairwise (le := (· ≥ ·)) (fun a b _ _ h1 h2 => Nat.le_antisymm h2 h1) hs ?_ ((hp.trans hSp.symm).trans (List.reverse_perm _).symm)
    rw [List.pairwise_reverse]
    have := sortC_srt l
    unfold srt at this
    rw [List.pairwise_map] at this ⊢
    exact this
  have lower : ∀ x, bestO M fl 1 2 = some x → l.length ≤ 2 ^ M ∧ weighN (lensL l M) l ≤ x := by
    intro x hx
    obtain ⟨d, d1, d2, d3, d4⟩ := best_is M M fl 1 2 x (by omega) hx
    have hdl : d.length = l.length := by rw [d1, hp.length_eq, List.length_map]
    have hroom : l.length ≤ 2 ^ M := by
      have : tot (fun _ => 2) d ≤ tot (fun y => 2 ^ (M + 1 - y)) d := tot_le _ _ _ fun y hy => by
        have := d2 y hy
        have : 2 ^ 1 ≤ 2 ^ (M + 1 - y) := Nat.pow_le_pow_right (by decide) (by omega)
        simpa using this
      rw [tot_const, d3, hdl, Nat.add_sub_cancel] at this
      omega
    refine ⟨hroom, ?_⟩
    obtain ⟨_, _, _, _, q5⟩ := lens_pm l M h1 (by omega) (by omega)
    unfold lensL
    rw [weigh_sortC]
    obtain ⟨ℓ, hℓ⟩ : ∃ ℓ : Nat → Nat, ℓ = fun s => d.reverse.getD ((sortC l).findIdx (fun q => q.2 == s)) 0 := ⟨_, rfl⟩
    have hmap : (sortC l).map (fun p => ℓ p.2) = d.reverse := by
      apply List.ext_getElem?
      intro i
      by_cases hi : i < (sortC l).length
      · have hfi : (sortC l).findIdx (fun q => q.2 == (sortC l)[i].2) = i := by
          rw [List.findIdx_eq hi]
          refine ⟨by simp, fun k hk => ?_⟩
          have hd := sortC_dst l
          unfold dst at hd
          rw [List.pairwise_map, List.pairwise_iff_getElem] at hd
          have := hd k i (by omega) hi hk
          simp only [leafP, symP] at this
          simpa using this
        rw [List.getElem?_map, List.getElem?_eq_getElem hi, Option.map_some, hℓ]
        simp only
        rw [hfi, List.getD_eq_getElem?_getD, List.getElem?_eq_getElem (by rw [List.length_reverse]; omega), Option.getD_some]
      · rw [List.getElem?_eq_none (by simp; omega), List.getElem?_eq_none (by simp; omega)]
    have hmem : ∀ p ∈ sortC l, ℓ p.2 ∈ d := fun p hp => by
      have : ℓ p.2 ∈ (sortC l).map fun p => ℓ p.2 := List.mem_map.2 ⟨p, hp, rfl⟩
      rw [hmap] at this
      simpa using this
    have := q5 ℓ (fun p hp => d2 _ (hmem p hp)) (by
      have e : tot (fun p : Nat × Nat => 2 ^ (M - ℓ p.2)) (sortC l) = tot (fun y => 2 ^ (M - y)) d := by
        rw [← tot_map (fun y => 2 ^ (M - y)) (fun p : Nat × Nat => ℓ p.2), hmap, tot_perm _ (List.reverse_perm d)]
      have e2 : tot (fun y => 2 ^ (M + 1 - y)) d = tot (fun y => 2 ^ (M - y)) d * 2 := by
        rw [← tot_mul]
        exact tot_congr _ _ _ fun y hy => by
          have := d2 y hy
          rw [show M + 1 - y = M - y + 1 by omega, Nat.pow_succ]
      rw [e]
      rw [e2, Nat.add_sub_cancel] at d3
      omega)
    refine Nat.le_trans this (Nat.le_of_eq ?_)
    rw [d4, hfl, ← dotN_map (fun p : Nat × Nat => ℓ p.2) (·.1), hmap]
    have e := dotN_rev d.reverse ((sortC l).map (·.1)) (by rw [List.length_reverse, List.length_map]; omega)
    rw [List.reverse_reverse] at e
    exact e.symm
  by_cases hroom : l.length ≤ 2 ^ M
  · rw [if_pos hroom]
    obtain ⟨q1, _, _, q4, _⟩ := lens_pm l M h1 (by omega) (by omega)
    have hd : ((sortC l).map fun p => lenS l M p.2).reverse.Pairwise (· ≤ ·) := by
      rw [List.pairwise_reverse, List.pairwise_map, List.pairwise_iff_getElem]
      intro i j hi hj hij
      exact lens_rank l M h1 (by omega) (by omega) i j _ _ (List.getElem?_eq_getElem hi) (List.getElem?_eq_getElem hj) (by omega)
    obtain ⟨x, b1, b2⟩ := best_least M M fl ((sortC l).map fun p => lenS l M p.2).reverse 1 2 (by omega) (by rw [hfl]; simp) hd (fun y hy => by
      rw [List.mem_reverse] at hy
      obtain ⟨p, hp, rfl⟩ := List.mem_map.1 hy
      exact q1 p hp) (by
      rw [tot_perm _ (List.reverse_perm _), tot_map, Nat.add_sub_cancel, ← q4, Nat.mul_comm, ← tot_mul]
      exact tot_congr _ _ _ fun p hp => by
        have := q1 p hp
        rw [show M + 1 - lenS l M p.2 = M - lenS l M p.2 + 1 by omega, Nat.pow_succ])
    rw [b1]
    congr 1
    refine Nat.le_antisymm ?_ (lower x b1).2
    refine Nat.le_trans b2 (Nat.le_of_eq ?_)
    unfold lensL
    rw [weigh_sortC, hfl, dotN_rev _ _ (by simp), dotN_map]
  · rw [if_neg hroom]
    cases hb : bestO M fl 1 2 with
    | none => rfl
    | some x => exact absurd (lower x hb).1 hroom
end Go.Proofs.Ytmajacfcfdljeaa
