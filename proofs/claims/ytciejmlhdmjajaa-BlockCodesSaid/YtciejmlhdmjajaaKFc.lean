/- Best codes take no more bits for symbols than the fixed ones: plain. platenlaw13.weigh: how many bits the symbols of tokens take, by codes. -/
import Derived.Test.YtciejmlhdmjajaaKFb
import Derived.Test.YtciejmlhdmjajaaKEv
namespace Go.Proofs.Ytciejmlhdmjajaa
set_option linter.unusedVariables false
set_option linter.unusedSimpArgs false

theorem max_of (f : Nat → Nat) : ∀ U : List Nat, U ≠ [] → ∃ u, u ∈ U ∧ ∀ v, v ∈ U → f v ≤ f u
  | [], h => absurd rfl h
  | [u], _ => ⟨u, by simp, fun v hv => by simp at hv; rw [hv]; exact Nat.le_refl _⟩
  | u :: v :: U, _ => by
    obtain ⟨x, hx, hm⟩ := max_of f (v :: U) (by simp)
    by_cases h : f x ≤ f u
    · exact ⟨u, by simp, fun y hy => by
        rcases List.mem_cons.1 hy with rfl | hy
        · exact Nat.le_refl _
        · exact Nat.le_trans (hm y hy) h⟩
    · exact ⟨x, List.mem_cons_of_mem _ hx, fun y hy => by
        rcases List.mem_cons.1 hy with rfl | hy
        · omega
        · exact hm y hy⟩
theorem tot_turn (g : Nat → Nat) (u0 a : Nat) : ∀ U : List Nat, U.Nodup → u0 ∈ U → tot (fun u => if u = u0 then a else g u) U + g u0 = tot g U + a
  | [], _, h => by cases h
  | u :: U, hn, h => by
    have hn2 := List.nodup_cons.1 hn
    simp only [tot]
    rcases List.mem_cons.1 h with rfl | h
    · rw [if_pos rfl, tot_congr (fun u => if u = u0 then a else g u) g U fun x hx => by rw [if_neg (by rintro rfl; exact hn2.1 hx)]]
      omega
    · have h3 := tot_turn g u0 a U hn2.2 h
      rw [if_neg (by rintro rfl; exact hn2.1 h)]
      omega
/-- Lengths that leave room can be made shorter till they leave none. -/
theorem kraft_fill (m : Nat) (U : List Nat) (hn : U.Nodup) (h2 : 2 ≤ U.length) : ∀ (f : Nat) (l : Nat → Nat), tot l U ≤ f → (∀ u, u ∈ U → 1 ≤ l u ∧ l u ≤ m) → tot (fun u => 2 ^ (m - l u)) U ≤ 2 ^ m →
    ∃ k : Nat → Nat, (∀ u, u ∈ U → 1 ≤ k u ∧ k u ≤ l u) ∧ tot (fun u => 2 ^ (m - k u)) U = 2 ^ m := by
  intro f
  induction f with
  | zero =>
    intro l hf hl hk
    exfalso
    cases U with
    | nil => simp at h2
    | cons u U => have := (hl u (by simp)).1; simp only [tot] at hf; omega
  | succ f ih =>
    intro l hf hl hk
    by_cases he : tot (fun u => 2 ^ (m - l u)) U = 2 ^ m
    · exact ⟨l, fun u hu => ⟨(hl u hu).1, Nat.le_refl _⟩, he⟩
    · obtain ⟨u0, hu0, hmax⟩ := max_of l U (by rintro rfl; simp at h2)
      have hM := hl u0 hu0
      -- a multiple of the least part
      have hmul : tot (fun u => 2 ^ (m - l u)) U = tot (fun u => 2 ^ (l u0 - l u)) U * 2 ^ (m - l u0) := by
        rw [← tot_mul]
        exact tot_congr _ _ _ fun u hu => by
          rw [← Nat.pow_add]
          congr 1
          have := hmax u hu; have := hl u hu; omega
      have hp : 2 ^ m = 2 ^ l u0 * 2 ^ (m - l u0) := by rw [← Nat.pow_add]; congr 1; omega
      have hlt : tot (fun u => 2 ^ (l u0 - l u)) U < 2 ^ l u0 := by
        have h3 : tot (fun u => 2 ^ (l u0 - l u)) U * 2 ^ (m - l u0) < 2 ^ l u0 * 2 ^ (m - l u0) := by rw [← hmul, ← hp]; omega
        exact Nat.lt_of_mul_lt_mul_right h3
      have hl2 : 2 ≤ l u0 := by
        rcases Nat.lt_or_ge (l u0) 2 with h | h
        · exfalso
          have h1 : l u0 = 1 := by omega
          have h3 : tot (fun u => 2 ^ (l u0 - l u)) U = U.length := by
            rw [tot_congr _ (fun _ => 1) U fun u hu => by have := hmax u hu; have := hl u hu; rw [show l u0 - l u = 0 by omega], tot_length]
          rw [h3, h1] at hlt
          omega
        · exact h
      obtain ⟨k, hk1, hk2⟩ := ih (fun u => if u = u0 then l u0 - 1 else l u)
        (by have := tot_turn l u0 (l u0 - 1) U hn hu0; omega)
        (fun u hu => by
          by_cases h : u = u0
          · simp only [if_pos h]; omega
          · simp only [if_neg h]; exact hl u hu)
        (by
          have h3 := tot_turn (fun u => 2 ^ (m - l u)) u0 (2 ^ (m - (l u0 - 1))) U hn hu0
          have h4 : tot (fun u => 2 ^ (m - (if u = u0 then l u0 - 1 else l u))) U = tot (fun u => if u = u0 then 2 ^ (m - (l u0 - 1)) else 2 ^ (m - l u)) U := tot_congr _ _ _ fun u hu => by
            by_cases h : u = u0
            · rw [if_pos h, if_pos h]
            · rw [if_neg h, if_neg h]
          have h5 : 2 ^ (m - (l u0 - 1)) = 2 * 2 ^ (m - l u0) := by rw [show m - (l u0 - 1) = (m - l u0) + 1 by omega, Nat.pow_succ]; omega
          have h6 : (tot (fun u => 2 ^ (l u0 - l u)) U + 1) * 2 ^ (m - l u0) ≤ 2 ^ l u0 * 2 ^ (m - l u0) := Nat.mul_le_mul_right _ hlt
          rw [Nat.add_mul] at h6
          rw [h4]
          omega)
      exact ⟨k, fun u hu => by
        have h3 := hk1 u hu
        by_cases h : u = u0
        · simp only [if_pos h] at h3; rw [h] at h3 ⊢; omega
        · simp only [if_neg h] at h3; exact h3, hk2⟩
/-- The symbols that count. -/
def usedL (F : Nat → Nat) (n : Nat) : List Nat := (List.range n).filter fun i => decide (0 < F i)
theorem used_nodup (F : Nat → Nat) (n : Nat) : (usedL F n).Nodup := List.Pairwise.filter _ List.nodup_range
theorem used_mem {F : Nat → Nat} {n i : Nat} : i ∈ usedL F n ↔ i < n ∧ 0 < F i := by simp [usedL]
theorem tot_used (F h : Nat → Nat) (n : Nat) : tot (fun p : Nat × Nat => h p.2) (sortC (ctL F n)) = tot h (usedL F n) := by
  unfold usedL
  rw [tot_filter]
  have h1 := tot_sortC (ctL F n) (fun i => if 0 < F i then h i else 0) (fun i c hi hc => by
    obtain ⟨h1, rfl⟩ := ctL_of hi
    rw [if_neg (by omega)])
  rw [ctL_len] at h1
  rw [tot_congr (fun i => if decide (0 < F i) = true then h i else 0) (fun i => if 0 < F i then h i else 0) _ (fun i _ => by simp), h1]
  exact tot_congr _ _ _ fun p hp => by
    obtain ⟨c, hc, h0, _⟩ := (sortC_mem _ p).1 hp
    obtain ⟨h2, rfl⟩ := ctL_of hc
    rw [if_pos (by omega)]
theorem tot_counts (F G : Nat → Nat) (n : Nat) : tot (fun p : Nat × Nat => p.1 * G p.2) (sortC (ctL F n)) = tot (fun i => F i * G i) (usedL F n) := by
  rw [← tot_used F (fun i => F i * G i) n]
  exact tot_congr _ _ _ fun p hp => by
    obtain ⟨c, hc, h0, h1⟩ := (sortC_mem _ p).1 hp
    obtain ⟨h2, rfl⟩ := ctL_of hc
    rw [h1, Int.toNat_natCast]
theorem best_weighs (F G : Nat → Nat) (n m : Nat) (h1 : 1 ≤ m) (hn : n ≤ 2 ^ m) (hG : ∀ u, u ∈ usedL F n → 1 ≤ G u ∧ G u ≤ m) (hk : tot (fun u => 2 ^ (m - G u)) (usedL F n) ≤ 2 ^ m) :
    tot (fun i => F i * lenS (ctL F n) m i) (usedL F n) ≤ tot (fun i => F i * G i) (usedL F n) := by
  have hr : (sortC (ctL F n)).length ≤ 2 ^ m := by rw [← posN_sort]; exact Nat.le_trans (posN_le F n) hn
  have hlen : (sortC (ctL F n)).length = (usedL F n).length := by
    have := tot_used F (fun _ => 1) n
    rw [tot_length, tot_length] at this
    exact this
  by_cases h2 : (sortC (ctL F n)).length < 2
  · refine tot_le _ _ _ fun u hu => Nat.mul_le_mul_left _ ?_
    rw [few_len _ m u h2]
    have := (hG u hu).1
    split <;> omega
  · obtain ⟨k, hk1, hk2⟩ := kraft_fill m (usedL F n) (used_nodup F n) (by omega) _ G (Nat.le_refl _) hG hk
    obtain ⟨_, _, _, _, h5⟩ := lens_pm (ctL F n) m h1 hr (by omega)
    have hmem : ∀ p : Nat × Nat, p ∈ sortC (ctL F n) → p.2 ∈ usedL F n := fun p hp => by
      obtain ⟨c, hc, h0, _⟩ := (sortC_mem _ p).1 hp
      obtain ⟨h3, rfl⟩ := ctL_of hc
      exact used_mem.2 ⟨h3, by omega⟩
    have h6 := h5 k (fun p hp => ⟨(hk1 _ (hmem p hp)).1, Nat.le_trans (hk1 _ (hmem p hp)).2 (hG _ (hmem p hp)).2⟩) (by rw [tot_used F (fun u => 2 ^ (m - k u)) n]; exact hk2)
    rw [tot_counts, tot_counts] at h6
    exact Nat.le_trans h6 (tot_le _ _ _ fun u hu => Nat.mul_le_mul_left _ (hk1 u hu).2)
/-- What stands besides the symbols. -/
def besides : List Sy → Nat
  | [] => 0
  | s :: l => s.bits + besides l
theorem tot_pick (k : Nat) (f : Nat → Nat) : ∀ n, tot (fun i => (if k = i then 1 else 0) * f i) (List.range n) = if k < n then f k else 0
  | 0 => by simp [tot]
  | n + 1 => by
    rw [List.range_succ, tot_append, tot_pick k f n]
    simp only [tot]
    by_cases h : k = n
    · subst h; simp
    · rw [if_neg h]
      by_cases h2 : k < n
      · rw [if_pos h2, if_pos (by omega)]; simp
      · rw [if_neg h2, if_neg (by omega)]; simp
theorem takes_split (lit dist : List Nat) (nl nd : Nat) : ∀ L : List Sy, (∀ s, s ∈ L → if s.dist then s.n < nd else s.n < nl) →
    takesL lit dist L = tot (fun i => cntSy false i L * lit.getD i 0) (List.range nl) + tot (fun i => cntSy true i L * dist.getD i 0) (List.range nd) + besides L
  | [], _ => by
    simp only [takesL, besides, cntSy, Nat.zero_mul]
    rw [tot_zero _ _ fun _ _ => rfl, tot_zero _ _ fun _ _ => rfl]
  | s :: L, h => by
    have ih := takes_split lit dist nl nd L fun x hx => h x (by simp [hx])
    have hs := h s (by simp)
    simp only [takesL, besides, ih]
    have e1 : tot (fun i => cntSy false i (s :: L) * lit.getD i 0) (List.range nl) = (if s.dist = false then lit.getD s.n 0 else 0) + tot (fun i => cntSy false i L * lit.getD i 0) (List.range nl) := by
      rw [tot_congr _ (fun i => (if s.dist = false ∧ s.n = i then 1 else 0) * lit.getD i 0 + cntSy false i L * lit.getD i 0) _ (fun i _ => by simp only [cntSy, Nat.add_mul]), tot_add]
      congr 1
      cases hd : s.dist with
      | true => simp; exact tot_zero _ _ fun _ _ => rfl
      | false =>
        rw [hd] at hs
        simp only [true_and]
        rw [tot_pick, if_pos (by simpa using hs)]
        simp
    have e2 : tot (fun i => cntSy true i (s :: L) * dist.getD i 0) (List.range nd) = (if s.dist = true then dist.getD s.n 0 else 0) + tot (fun i => cntSy true i L * dist.getD i 0) (List.range nd) := by
      rw [tot_congr _ (fun i => (if s.dist = true ∧ s.n = i then 1 else 0) * dist.getD i 0 + cntSy true i L * dist.getD i 0) _ (fun i _ => by simp only [cntSy, Nat.add_mul]), tot_add]
      congr 1
      cases hd : s.dist with
      | false => simp; exact tot_zero _ _ fun _ _ => rfl
      | true =>
        rw [hd] at hs
        simp only [true_and]
        rw [tot_pick, if_pos (by simpa using hs)]
        simp
    rw [e1, e2]
    unfold Sy.takes
    cases hd : s.dist with
    | true => simp; omega
    | false => simp; omega
theorem tot_range_used (F g : Nat → Nat) (n : Nat) : tot (fun i => F i * g i) (List.range n) = tot (fun i => F i * g i) (usedL F n) := by
  unfold usedL
  rw [tot_filter]
  exact tot_congr _ _ _ fun i _ => by
    by_cases h : 0 < F i
    · simp [h]
    · have : F i = 0 := by omega
      simp [this]
theorem tot_used_le (F h : Nat → Nat) (n : Nat) : tot h (usedL F n) ≤ tot h (List.range n) := by
  unfold usedL
  rw [tot_filter]
  exact tot_le _ _ _ fun i _ => by split <;> omega
theorem fix_kraft : tot (fun i => 2 ^ (15 - fixF i)) (List.range 286) ≤ 2 ^ 15 := by decide +kernel
theorem fix_kraftD : tot (fun _ => 2 ^ (15 - 5)) (List.range 30) ≤ 2 ^ 15 := by decide +kernel
theorem fixF_le (i : Nat) : 1 ≤ fixF i ∧ fixF i ≤ 15 := by unfold fixF; (repeat' split) <;> omega
theorem getD_map (F : Nat → Nat) (n i : Nat) (h : i < n) : ((List.range n).map F).getD i 0 = F i := by simp [List.getD, h]
/-- The best codes take no more bits for symbols than the fixed ones. -/
theorem best_le_fixed (l : List Tok) (hok : ∀ s ∈ symsL l, s.ok) : takesL (bestLit l) (bestDist l) (symsL l) ≤ takesL fixLit fixDist (symsL l) := by
  have hpl : ∀ s, s ∈ symsL l → if s.dist then s.n < 30 else s.n < 286 := fun s hs => (hok s hs).1
  rw [takes_split _ _ 286 30 _ hpl, takes_split _ _ 286 30 _ hpl]
  have a1 : tot (fun i => cntSy false i (symsL l) * (bestLit l).getD i 0) (List.range 286) ≤ tot (fun i => cntSy false i (symsL l) * fixLit.getD i 0) (List.range 286) := by
    rw [tot_congr (fun i => cntSy false i (symsL l) * (bestLit l).getD i 0) (fun i => cntSy false i (symsL l) * bestF false 286 (symsL l) i) _ (fun i hi => by unfold bestLit; rw [getD_map _ _ _ (List.mem_range.1 hi)]),
      tot_congr (fun i => cntSy false i (symsL l) * fixLit.getD i 0) (fun i => cntSy false i (symsL l) * fixF i) _ (fun i hi => by unfold fixLit; rw [getD_map _ _ _ (by have := List.mem_range.1 hi; omega)]),
      tot_range_used (fun i => cntSy false i (symsL l)) (bestF false 286 (symsL l)), tot_range_used (fun i => cntSy false i (symsL l)) fixF]
    exact best_weighs (fun i => cntSy false i (symsL l)) fixF 286 15 (by omega) (by omega) (fun u _ => fixF_le u) (Nat.le_trans (tot_used_le _ _ _) fix_kraft)
  have a2 : tot (fun i => cntSy true i (symsL l) * (bestDist l).getD i 0) (List.range 30) ≤ tot (fun i => cntSy true i (symsL l) * fixDist.getD i 0) (List.range 30) := by
    rw [tot_congr (fun i => cntSy true i (symsL l) * (bestDist l).getD i 0) (fun i => cntSy true i (symsL l) * bestF true 30 (symsL l) i) _ (fun i hi => by unfold bestDist; rw [getD_map _ _ _ (List.mem_range.1 hi)]),
      tot_congr (fun i => cntSy true i (symsL l) * fixDist.getD i 0) (fun i => cntSy true i (symsL l) * (fun _ => 5) i) _ (fun i hi => by unfold fixDist; rw [getD_map (fun _ => 5) _ _ (List.mem_range.1 hi)]),
      tot_range_used (fun i => cntSy true i (symsL l)) (bestF true 30 (symsL l)), tot_range_used (fun i => cntSy true i (symsL l)) (fun _ => 5)]
    exact best_weighs (fun i => cntSy true i (symsL l)) (fun _ => 5) 30 15 (by omega) (by omega) (fun u _ => ⟨by omega, by omega⟩) (Nat.le_trans (tot_used_le _ _ _) fix_kraftD)
  omega
theorem cntSy_pos (d : Bool) (i : Nat) : ∀ L : List Sy, (∃ s, s ∈ L ∧ s.dist = d ∧ s.n = i) → 0 < cntSy d i L
  | [], h => by obtain ⟨s, hs, _⟩ := h; cases hs
  | s :: L, h => by
    obtain ⟨x, hx, h1, h2⟩ := h
    simp only [cntSy]
    rcases List.mem_cons.1 hx with rfl | hx
    · rw [if_pos ⟨h1, h2⟩]; omega
    · have := cntSy_pos d i L ⟨x, hx, h1, h2⟩; omega
theorem lenS_pos (F : Nat → Nat) (n m s : Nat) (h1 : 1 ≤ m) (hn : n ≤ 2 ^ m) (hs : s < n) (h : 0 < F s) : 0 < lenS (ctL F n) m s :=
  (lens_pos _ m h1 (by rw [← posN_sort]; exact Nat.le_trans (posN_le F n) hn) s).2 ⟨(F s : Int), ctL_get F n s hs, by omega⟩
/-- Every symbol that stands there has a code of its own in the best codes, and in the fixed ones. -/
theorem best_has (l : List Tok) (hok : ∀ s ∈ symsL l, s.ok) (s : Sy) (hs : s ∈ symsL l) : 0 < (if s.dist then bestDist l else bestLit l).getD s.n 0 := by
  have h1 := (hok s hs).1
  cases hd : s.dist with
  | true =>
    rw [hd] at h1
    simp only [if_true] at h1 ⊢
    unfold bestDist
    rw [getD_map _ _ _ h1]
    exact lenS_pos _ 30 15 s.n (by omega) (by omega) h1 (cntSy_pos _ _ _ ⟨s, hs, hd, rfl⟩)
  | false =>
    rw [hd] at h1
    simp only [Bool.false_eq_true, if_false] at h1 ⊢
    unfold bestLit
    rw [getD_map _ _ _ h1]
    exact lenS_pos _ 286 15 s.n (by omega) (by omega) h1 (cntSy_pos _ _ _ ⟨s, hs, hd, rfl⟩)
theorem fixed_has (s : Sy) (h : s.ok) : 0 < (if s.dist then fixDist else fixLit).getD s.n 0 := by
  have h1 := h.1
  cases hd : s.dist with
  | true =>
    rw [hd] at h1
    simp only [if_true] at h1 ⊢
    unfold fixDist
    rw [getD_map (fun _ => 5) _ _ h1]
    omega
  | false =>
    rw [hd] at h1
    simp only [Bool.false_eq_true, if_false] at h1 ⊢
    unfold fixLit
    rw [getD_map _ _ _ (by omega)]
    exact (fixF_le _).1
/-- The head takes more than its own numbers. -/
theorem head_more (lit dist : List Nat) (hl : 257 ≤ lit.length) (h8 : ∀ x ∈ lit, x ≤ 15) (k8 : ∀ x ∈ dist, x ≤ 15) : 14 + 12 < headN lit dist := by
  unfold headN
  have h1 := (kl_le lit dist).1
  have h2 : 0 < takesR (ownF lit dist) (rsL lit dist) := by
    have hne : allL lit dist ≠ [] := by
      unfold allL
      intro h
      have h3 := (List.append_eq_nil_iff.1 h).1
      have h4 := congrArg List.length h3
      rw [List.length_take, List.length_nil] at h4
      have h5 := uptoD_ge lit 257 lit.length hl
      unfold uptoL at h4
      omega
    obtain ⟨v, r, hvr⟩ : ∃ v r, allL lit dist = v :: r := by
      cases h : allL lit dist with
      | nil => exact absurd h hne
      | cons v r => exact ⟨v, r, rfl⟩
    have hrk := packL_ok _ (allL_ok h8 k8)
    have hp : ∃ p ps, rsL lit dist = p :: ps := by
      unfold rsL
      rw [hvr, packL_cons]
      have hq : runL v (sameN v r + 1) ≠ [] := by
        unfold runL
        split
        · intro h
          have h3 := repR_lt 18 (sameN v r + 1)
          obtain ⟨h4, h5⟩ := List.append_eq_nil_iff.1 h
          obtain ⟨h6, h7⟩ := List.append_eq_nil_iff.1 h5
          by_cases hlo : loN 18 ≤ sameN v r + 1
          · rw [repL_step 18 _ hlo] at h4; cases h4
          · rw [repR_end 18 _ (by omega)] at h6 h7
            by_cases hlo2 : loN 17 ≤ sameN v r + 1
            · rw [repL_step 17 _ hlo2] at h6; cases h6
            · rw [repR_end 17 _ (by omega)] at h7
              simp at h7
        · simp
      cases hr : runL v (sameN v r + 1) with
      | nil => exact absurd hr hq
      | cons p ps => exact ⟨p, ps ++ packL (List.drop (sameN v r) r), rfl⟩
    obtain ⟨p, ps, hps⟩ := hp
    have hpo := hrk p (by show p ∈ rsL lit dist; rw [hps]; simp)
    have h3 : 0 < ownF lit dist p.1 := by
      unfold ownF
      refine lenS_pos _ 19 7 p.1 (by omega) (by omega) (by have := hpo.1; omega) ?_
      unfold cntR
      rw [hps, List.filter_cons, if_pos (by simp)]
      simp
    rw [hps]
    simp only [takesR]
    omega
  omega
end Go.Proofs.Ytciejmlhdmjajaa
namespace Go.Proofs.Ytciejmlhdmjajaa
open Go.RowKit
set_option linter.unusedVariables false
set_option linter.unusedSimpArgs false

theorem takesL_take (lit dist : List Nat) (L : List Sy) (k : Nat) (s : Sy) (h : L[k]? = some s) : takesL lit dist (L.take (k + 1)) = takesL lit dist (L.take k) + s.takes lit dist := by
  rw [List.take_add_one, h, takesL_append]
  simp [takesL]
set_option maxRecDepth 100000 in
set_option maxHeartbeats 6400000 in
theorem lawWeigh_ok (a : Option Addr) (c : Nat) (l : List Tok) (aL aD : Option Addr) (cL cD : Nat) (lit dist : List Nat) (w : World) (hs : SlOf Tok.enc Tok.sz w a l) (hl : l.length ≤ 100000) (hok : ∀ t ∈ l, t.ok) (hmay : ∀ t ∈ l, t.may = true)
    (hL : SlOf U8 1 w aL lit) (hD : SlOf U8 1 w aD dist) (h8 : ∀ x ∈ lit, x < 256) (k8 : ∀ x ∈ dist, x < 256) (hll : 286 ≤ lit.length) (hll2 : lit.length ≤ 300) (hdl : dist.length = 30) (hp : ∀ s ∈ symsL l, 0 < (if s.dist then dist else lit).getD s.n 0) :
    Calls Try.prog 19 #[.slice a l.length c, .agg #[.slice aL lit.length cL, .slice aD dist.length cD]] w fun e w' => e = .returned (.tuple #[.int .i64 ((takesL lit dist (symsL l) : Nat) : Int), .bool true]) ∧ Fr [] w w' := by
  have hso := symsL_ok hmay fun t ht => (hok t ht).1
  have hsl := symsL_len l
  have HS := Lib.hid (fun W (f : Fr [] w W) => refSyms_ok a c l W (hs.fr f fun _ _ => by simp) hl hok hmay)
  obtain ⟨L, hLe⟩ : ∃ L, symsL l = L := ⟨_, rfl⟩
  rw [hLe] at hso hsl hp HS
  have hLi : (L.length : Int) ≤ 200001 := by omega
  have HB := Lib.hid (And.intro hL (And.intro hD (And.intro h8 (And.intro k8 (And.intro hll (And.intro hdl (And.intro hso (And.intro hp (And.intro hLe hll2)))))))))
  rw [hLe]
  have hdli : dist.length = 30 := hdl
  obtain ⟨nl, hnl⟩ : ∃ nl, lit.length = nl := ⟨_, rfl⟩
  obtain ⟨nd, hnd⟩ : ∃ nd, dist.length = nd := ⟨_, rfl⟩
  have HNL := Lib.hid (And.intro hnl hnd)
  have hnli : 286 ≤ (nl : Int) := by omega
  have hnli2 : (nl : Int) ≤ 300 := by omega
  have hndi : (nd : Int) = 30 := by omega
  have hndi2 : 30 ≤ (nd : Int) := by omega
  have hndi3 : (nd : Int) ≤ 30 := by omega
  rw [hnl, hnd]
  clear hs hl hok hmay hL hD h8 k8 hll hdl hp hso hsl hLe hdli hnl hnd hndi hll2
  go_enter Try.func19, Try.ntmps19
  go_wp2_with fail
  refine (HS.out _ (Fr.alloc _ _ _)).mono ?_
  rintro e w1 ⟨ao, co, rfl, hsr, f1, -⟩
  have x0 := f1.blk (alloc_last w (.cells #[.slice aL nl cL, .slice aD nd cD] 27)) (by simp)
  have c0 := cell_of x0 0
  have c1 := cell_of x0 1
  simp at c0 c1
  have HX := Lib.hid (And.intro hsr (And.intro ((Fr.alloc _ _ _).trans f1 : Fr [] w w1) x0))
  clear hsr f1 x0
  go_wp2_with fail
  go_loopw [6, 8] (fun v6 v8 wr => ∃ (k n : Nat), k ≤ L.length ∧ v8 = .int .i64 (k : Int) ∧ v6 = .int .i64 ((takesL lit dist (L.take k) : Nat) : Int) ∧ wr = w1.drewN n) (fun _ v8 _ => L.length - (intOf v8).toNat)
  case atStart => exact ⟨0, 0, by omega, rfl, by simp [takesL], rfl⟩
  case round =>
    obtain ⟨k, nq, hk, rfl, rfl, rfl⟩ := hrel
    by_cases hlt : k < L.length
    · have hki : (k : Int) < (L.length : Int) := by omega
      obtain ⟨s, hsk⟩ : ∃ s, L[k]? = some s := ⟨L[k], List.getElem?_eq_getElem hlt⟩
      obtain ⟨hL, hD, h8, k8, hll, hdl, hso, hp, hLe, hll2⟩ := HB.out
      have hsm := List.mem_of_getElem? hsk
      have hsok := hso s hsm
      have hsp := hp s hsm
      have fw : Fr [] w (w1.drewN nq) := HX.out.2.1.trans (Fr.drewN _ _ _)
      obtain ⟨b, o, rfl, hbl, hcell⟩ := (HX.out.1.fr (Fr.drewN [] w1 nq) fun _ _ => by simp) (by intro h; rw [h] at hlt; simp at hlt)
      have hT := takesL_le lit dist h8 k8 (L.take k) fun x hx => hso x (List.mem_of_mem_take hx)
      rw [List.length_take] at hT
      have HT := Lib.hid (takesL_take lit dist L k s hsk)
      obtain ⟨sd, sn, se, sb⟩ := s
      have k0 := hcell k _ hsk 0 (.bool sd) rfl
      have k1 := hcell k _ hsk 1 (.int .i64 (sn : Int)) rfl
      have k3 := hcell k _ hsk 3 (.int .i64 (sb : Int)) rfl
      simp only [Nat.add_zero] at k0
      rw [← Nat.add_assoc] at k1 k3
      have hsb : (sb : Int) ≤ 13 := by have := hsok.2.2; simp only at this; omega
      obtain ⟨T, hTe⟩ : ∃ T, takesL lit dist (L.take k) = T := ⟨_, rfl⟩
      rw [hTe] at hT HT ⊢
      have hTi : (T : Int) ≤ 100000000 := by omega
      have hnle := HNL.out.1
      have hnde := HNL.out.2
      cases sd
      · have hsn : sn < 286 := by have := hsok.1; simpa using this
        have hsni : (sn : Int) < 286 := by omega
        obtain ⟨q, hq⟩ : ∃ q, lit[sn]? = some q := ⟨lit[sn]'(by omega), List.getElem?_eq_getElem _⟩
        obtain ⟨g1, o1, rfl, hg1, hc1⟩ := (hL.fr fw fun _ _ => by simp) (by intro h; rw [h] at hq; simp at hq)
        have cq := hc1 sn q hq 0 (.int .u8 (q : Int)) rfl
        rw [Nat.mul_one, Nat.add_zero] at cq
        have hq8 : (q : Int) ≤ 255 := by have := h8 q (List.mem_of_getElem? hq); omega
        have hq0 : 0 < q := by simpa [List.getD, hq] using hsp
        have hqb : ((q : Int) == 0) = false := by rw [beq_eq_false_iff_ne]; omega
        have HE := Lib.hid (show takesL lit dist (L.take (k + 1)) = T + (q + sb) by rw [HT.out]; unfold Sy.takes; simp [List.getD, hq])
        clear hL hD h8 k8 hll hdl hso hp hLe hll2 hsm hsok hsp fw hcell hT hTe hsk hq hc1 hsn hq0 HT hlt hnle hnde
        have k1' : w1.cell? ⟨b, o + k * 4 + 1, none⟩ = some (.int .i64 (sn : Int)) := by simpa using k1
        have k3' : w1.cell? ⟨b, o + k * 4 + 3, none⟩ = some (.int .i64 (sb : Int)) := by simpa using k3
        have cq' : w1.cell? ⟨g1, o1 + sn, none⟩ = some (.int .u8 (q : Int)) := by simpa using cq
        go_wp2_with fail
        refine wp_region_quiet_lit (by kernel_rfl) (by kernel_rfl) ?_
        repeat go_big_quiet_step (fail)
        refine wpQuiet_nil ?_
        intro _ hw'
        obtain ⟨nq2, hw''⟩ := hw'
        subst hw''
        rw [World.drewN_drewN]
        go_wp2_with fail
        refine ⟨⟨k + 1, nq + nq2, by omega, by go_num, ?_, rfl⟩, by simp [intOf]; omega⟩
        rw [HE.out]
        go_num
      · have hsn : sn < 30 := by have := hsok.1; simpa using this
        have hsni : (sn : Int) < 30 := by omega
        obtain ⟨q, hq⟩ : ∃ q, dist[sn]? = some q := ⟨dist[sn]'(by omega), List.getElem?_eq_getElem _⟩
        obtain ⟨g1, o1, rfl, hg1, hc1⟩ := (hD.fr fw fun _ _ => by simp) (by intro h; rw [h] at hq; simp at hq)
        have cq := hc1 sn q hq 0 (.int .u8 (q : Int)) rfl
        rw [Nat.mul_one, Nat.add_zero] at cq
        have hq8 : (q : Int) ≤ 255 := by have := k8 q (List.mem_of_getElem? hq); omega
        have hq0 : 0 < q := by simpa [List.getD, hq] using hsp
        have hqb : ((q : Int) == 0) = false := by rw [beq_eq_false_iff_ne]; omega
        have HE := Lib.hid (show takesL lit dist (L.take (k + 1)) = T + (q + sb) by rw [HT.out]; unfold Sy.takes; simp [List.getD, hq])
        clear hL hD h8 k8 hll hdl hso hp hLe hll2 hsm hsok hsp fw hcell hT hTe hsk hq hc1 hsn hq0 HT hlt hnle hnde
        have k1' : w1.cell? ⟨b, o + k * 4 + 1, none⟩ = some (.int .i64 (sn : Int)) := by simpa using k1
        have k3' : w1.cell? ⟨b, o + k * 4 + 3, none⟩ = some (.int .i64 (sb : Int)) := by simpa using k3
        have cq' : w1.cell? ⟨g1, o1 + sn, none⟩ = some (.int .u8 (q : Int)) := by simpa using cq
        go_wp2_with fail
        refine wp_region_quiet_lit (by kernel_rfl) (by kernel_rfl) ?_
        repeat go_big_quiet_step (fail)
        refine wpQuiet_nil ?_
        intro _ hw'
        obtain ⟨nq2, hw''⟩ := hw'
        subst hw''
        rw [World.drewN_drewN]
        go_wp2_with fail
        refine ⟨⟨k + 1, nq + nq2, by omega, by go_num, ?_, rfl⟩, by simp [intOf]; omega⟩
        rw [HE.out]
        go_num
    · have hke : k = L.length := by omega
      subst hke
      have hki : ¬ (L.length : Int) < (L.length : Int) := by omega
      have hle : L.take L.length = L := List.take_of_length_le (Nat.le_refl _)
      rw [hle]
      clear hle hlt hk
      go_wp2_with fail
      go_ret2
      exact ⟨rfl, HX.out.2.1.trans (Fr.drewN _ _ _)⟩
end Go.Proofs.Ytciejmlhdmjajaa

