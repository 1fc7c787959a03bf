/- Best codes take no more bits for symbols than the fixed ones: plain. platenlaw13.weigh: how many bits the symbols of tokens take, by codes. platenref06's Lens: few symbols; all. What is in the rows of the levels, plain; rows of the reference. platenref06's Lens: of two symbols or more. PackTells: its walk. platenref13: the best codes. -/
import Derived.Test.YtciejmlhdmjajaaGreatKFb
import Derived.Test.YtciejmlhdmjajaaGreatKEv
import Derived.Test.YtciejmlhdmjajaaGreatKQg
namespace Go.Proofs.YtciejmlhdmjajaaGreat
set_option linter.unusedVariables false
set_option linter.unusedSimpArgs false

theorem max_of (f : Nat → Nat) : ∀ U : List Nat, U ≠ [] → ∃ u, u ∈ U ∧ ∀ v, v ∈ U → f v ≤ f u
  | [], h => absurd rfl h
  | [u], _ => ⟨u, by simp, fun v hv => by simp at hv; rw [hv]; exact Nat.le_refl _⟩
  | u :: v :: U, _ => by
    obtain ⟨x, hx, hm⟩ := max_of f (v :: U) (by simp)
    by_cases h : f x ≤ f u
    · exact ⟨u, by simp, fun y hy => by
        rcases List.mem_cons.1 hy with rfl | hy
        · exact Nat.le_refl _
        · exact Nat.le_trans (hm y hy) h⟩
    · exact ⟨x, List.mem_cons_of_mem _ hx, fun y hy => by
        rcases List.mem_cons.1 hy with rfl | hy
        · omega
        · exact hm y hy⟩
theorem tot_turn (g : Nat → Nat) (u0 a : Nat) : ∀ U : List Nat, U.Nodup → u0 ∈ U → tot (fun u => if u = u0 then a else g u) U + g u0 = tot g U + a
  | [], _, h => by cases h
  | u :: U, hn, h => by
    have hn2 := List.nodup_cons.1 hn
    simp only [tot]
    rcases List.mem_cons.1 h with rfl | h
    · rw [if_pos rfl, tot_congr (fun u => if u = u0 then a else g u) g U fun x hx => by rw [if_neg (by rintro rfl; exact hn2.1 hx)]]
      omega
    · have h3 := tot_turn g u0 a U hn2.2 h
      rw [if_neg (by rintro rfl; exact hn2.1 h)]
      omega
/-- Lengths that leave room can be made shorter till they leave none. -/
theorem kraft_fill (m : Nat) (U : List Nat) (hn : U.Nodup) (h2 : 2 ≤ U.length) : ∀ (f : Nat) (l : Nat → Nat), tot l U ≤ f → (∀ u, u ∈ U → 1 ≤ l u ∧ l u ≤ m) → tot (fun u => 2 ^ (m - l u)) U ≤ 2 ^ m →
    ∃ k : Nat → Nat, (∀ u, u ∈ U → 1 ≤ k u ∧ k u ≤ l u) ∧ tot (fun u => 2 ^ (m - k u)) U = 2 ^ m := by
  intro f
  induction f with
  | zero =>
    intro l hf hl hk
    exfalso
    cases U with
    | nil => simp at h2
    | cons u U => have := (hl u (by simp)).1; simp only [tot] at hf; omega
  | succ f ih =>
    intro l hf hl hk
    by_cases he : tot (fun u => 2 ^ (m - l u)) U = 2 ^ m
    · exact ⟨l, fun u hu => ⟨(hl u hu).1, Nat.le_refl _⟩, he⟩
    · obtain ⟨u0, hu0, hmax⟩ := max_of l U (by rintro rfl; simp at h2)
      have hM := hl u0 hu0
      -- a multiple of the least part
      have hmul : tot (fun u => 2 ^ (m - l u)) U = tot (fun u => 2 ^ (l u0 - l u)) U * 2 ^ (m - l u0) := by
        rw [← tot_mul]
        exact tot_congr _ _ _ fun u hu => by
          rw [← Nat.pow_add]
          congr 1
          have := hmax u hu; have := hl u hu; omega
      have hp : 2 ^ m = 2 ^ l u0 * 2 ^ (m - l u0) := by rw [← Nat.pow_add]; congr 1; omega
      have hlt : tot (fun u => 2 ^ (l u0 - l u)) U < 2 ^ l u0 := by
        have h3 : tot (fun u => 2 ^ (l u0 - l u)) U * 2 ^ (m - l u0) < 2 ^ l u0 * 2 ^ (m - l u0) := by rw [← hmul, ← hp]; omega
        exact Nat.lt_of_mul_lt_mul_right h3
      have hl2 : 2 ≤ l u0 := by
        rcases Nat.lt_or_ge (l u0) 2 with h | h
        · exfalso
          have h1 : l u0 = 1 := by omega
          have h3 : tot (fun u => 2 ^ (l u0 - l u)) U = U.length := by
            rw [tot_congr _ (fun _ => 1) U fun u hu => by have := hmax u hu; have := hl u hu; rw [show l u0 - l u = 0 by omega], tot_length]
          rw [h3, h1] at hlt
          omega
        · exact h
      obtain ⟨k, hk1, hk2⟩ := ih (fun u => if u = u0 then l u0 - 1 else l u)
        (by have := tot_turn l u0 (l u0 - 1) U hn hu0; omega)
        (fun u hu => by
          by_cases h : u = u0
          · simp only [if_pos h]; omega
          · simp only [if_neg h]; exact hl u hu)
        (by
          have h3 := tot_turn (fun u => 2 ^ (m - l u)) u0 (2 ^ (m - (l u0 - 1))) U hn hu0
          have h4 : tot (fun u => 2 ^ (m - (if u = u0 then l u0 - 1 else l u))) U = tot (fun u => if u = u0 then 2 ^ (m - (l u0 - 1)) else 2 ^ (m - l u)) U := tot_congr _ _ _ fun u hu => by
            by_cases h : u = u0
            · rw [if_pos h, if_pos h]
            · rw [if_neg h, if_neg h]
          have h5 : 2 ^ (m - (l u0 - 1)) = 2 * 2 ^ (m - l u0) := by rw [show m - (l u0 - 1) = (m - l u0) + 1 by omega, Nat.pow_succ]; omega
          have h6 : (tot (fun u => 2 ^ (l u0 - l u)) U + 1) * 2 ^ (m - l u0) ≤ 2 ^ l u0 * 2 ^ (m - l u0) := Nat.mul_le_mul_right _ hlt
          rw [Nat.add_mul] at h6
          rw [h4]
          omega)
      exact ⟨k, fun u hu => by
        have h3 := hk1 u hu
        by_cases h : u = u0
        · simp only [if_pos h] at h3; rw [h] at h3 ⊢; omega
        · simp only [if_neg h] at h3; exact h3, hk2⟩
/-- The symbols that count. -/
def usedL (F : Nat → Nat) (n : Nat) : List Nat := (List.range n).filter fun i => decide (0 < F i)
theorem used_nodup (F : Nat → Nat) (n : Nat) : (usedL F n).Nodup := List.Pairwise.filter _ List.nodup_range
theorem used_mem {F : Nat → Nat} {n i : Nat} : i ∈ usedL F n ↔ i < n ∧ 0 < F i := by simp [usedL]
theorem tot_used (F h : Nat → Nat) (n : Nat) : tot (fun p : Nat × Nat => h p.2) (sortC (ctL F n)) = tot h (usedL F n) := by
  unfold usedL
  rw [tot_filter]
  have h1 := tot_sortC (ctL F n) (fun i => if 0 < F i then h i else 0) (fun i c hi hc => by
    obtain ⟨h1, rfl⟩ := ctL_of hi
    rw [if_neg (by omega)])
  rw [ctL_len] at h1
  rw [tot_congr (fun i => if decide (0 < F i) = true then h i else 0) (fun i => if 0 < F i then h i else 0) _ (fun i _ => by simp), h1]
  exact tot_congr _ _ _ fun p hp => by
    obtain ⟨c, hc, h0, _⟩ := (sortC_mem _ p).1 hp
    obtain ⟨h2, rfl⟩ := ctL_of hc
    rw [if_pos (by omega)]
theorem tot_counts (F G : Nat → Nat) (n : Nat) : tot (fun p : Nat × Nat => p.1 * G p.2) (sortC (ctL F n)) = tot (fun i => F i * G i) (usedL F n) := by
  rw [← tot_used F (fun i => F i * G i) n]
  exact tot_congr _ _ _ fun p hp => by
    obtain ⟨c, hc, h0, h1⟩ := (sortC_mem _ p).1 hp
    obtain ⟨h2, rfl⟩ := ctL_of hc
    rw [h1, Int.toNat_natCast]
theorem best_weighs (F G : Nat → Nat) (n m : Nat) (h1 : 1 ≤ m) (hn : n ≤ 2 ^ m) (hG : ∀ u, u ∈ usedL F n → 1 ≤ G u ∧ G u ≤ m) (hk : tot (fun u => 2 ^ (m - G u)) (usedL F n) ≤ 2 ^ m) :
    tot (fun i => F i * lenS (ctL F n) m i) (usedL F n) ≤ tot (fun i => F i * G i) (usedL F n) := by
  have hr : (sortC (ctL F n)).length ≤ 2 ^ m := by rw [← posN_sort]; exact Nat.le_trans (posN_le F n) hn
  have hlen : (sortC (ctL F n)).length = (usedL F n).length := by
    have := tot_used F (fun _ => 1) n
    rw [tot_length, tot_length] at this
    exact this
  by_cases h2 : (sortC (ctL F n)).length < 2
  · refine tot_le _ _ _ fun u hu => Nat.mul_le_mul_left _ ?_
    rw [few_len _ m u h2]
    have := (hG u hu).1
    split <;> omega
  · obtain ⟨k, hk1, hk2⟩ := kraft_fill m (usedL F n) (used_nodup F n) (by omega) _ G (Nat.le_refl _) hG hk
    obtain ⟨_, _, _, _, h5⟩ := lens_pm (ctL F n) m h1 hr (by omega)
    have hmem : ∀ p : Nat × Nat, p ∈ sortC (ctL F n) → p.2 ∈ usedL F n := fun p hp => by
      obtain ⟨c, hc, h0, _⟩ := (sortC_mem _ p).1 hp
      obtain ⟨h3, rfl⟩ := ctL_of hc
      exact used_mem.2 ⟨h3, by omega⟩
    have h6 := h5 k (fun p hp => ⟨(hk1 _ (hmem p hp)).1, Nat.le_trans (hk1 _ (hmem p hp)).2 (hG _ (hmem p hp)).2⟩) (by rw [tot_used F (fun u => 2 ^ (m - k u)) n]; exact hk2)
    rw [tot_counts, tot_counts] at h6
    exact Nat.le_trans h6 (tot_le _ _ _ fun u hu => Nat.mul_le_mul_left _ (hk1 u hu).2)
/-- What stands besides the symbols. -/
def besides : List Sy → Nat
  | [] => 0
  | s :: l => s.bits + besides l
theorem tot_pick (k : Nat) (f : Nat → Nat) : ∀ n, tot (fun i => (if k = i then 1 else 0) * f i) (List.range n) = if k < n then f k else 0
  | 0 => by simp [tot]
  | n + 1 => by
    rw [List.range_succ, tot_append, tot_pick k f n]
    simp only [tot]
    by_cases h : k = n
    · subst h; simp
    · rw [if_neg h]
      by_cases h2 : k < n
      · rw [if_pos h2, if_pos (by omega)]; simp
      · rw [if_neg h2, if_neg (by omega)]; simp
theorem takes_split (lit dist : List Nat) (nl nd : Nat) : ∀ L : List Sy, (∀ s, s ∈ L → if s.dist then s.n < nd else s.n < nl) →
    takesL lit dist L = tot (fun i => cntSy false i L * lit.getD i 0) (List.range nl) + tot (fun i => cntSy true i L * dist.getD i 0) (List.range nd) + besides L
  | [], _ => by
    simp only [takesL, besides, cntSy, Nat.zero_mul]
    rw [tot_zero _ _ fun _ _ => rfl, tot_zero _ _ fun _ _ => rfl]
  | s :: L, h => by
    have ih := takes_split lit dist nl nd L fun x hx => h x (by simp [hx])
    have hs := h s (by simp)
    simp only [takesL, besides, ih]
    have e1 : tot (fun i => cntSy false i (s :: L) * lit.getD i 0) (List.range nl) = (if s.dist = false then lit.getD s.n 0 else 0) + tot (fun i => cntSy false i L * lit.getD i 0) (List.range nl) := by
      rw [tot_congr _ (fun i => (if s.dist = false ∧ s.n = i then 1 else 0) * lit.getD i 0 + cntSy false i L * lit.getD i 0) _ (fun i _ => by simp only [cntSy, Nat.add_mul]), tot_add]
      congr 1
      cases hd : s.dist with
      | true => simp; exact tot_zero _ _ fun _ _ => rfl
      | false =>
        rw [hd] at hs
        simp only [true_and]
        rw [tot_pick, if_pos (by simpa using hs)]
        simp
    have e2 : tot (fun i => cntSy true i (s :: L) * dist.getD i 0) (List.range nd) = (if s.dist = true then dist.getD s.n 0 else 0) + tot (fun i => cntSy true i L * dist.getD i 0) (List.range nd) := by
      rw [tot_congr _ (fun i => (if s.dist = true ∧ s.n = i then 1 else 0) * dist.getD i 0 + cntSy true i L * dist.getD i 0) _ (fun i _ => by simp only [cntSy, Nat.add_mul]), tot_add]
      congr 1
      cases hd : s.dist with
      | false => simp; exact tot_zero _ _ fun _ _ => rfl
      | true =>
        rw [hd] at hs
        simp only [true_and]
        rw [tot_pick, if_pos (by simpa using hs)]
        simp
    rw [e1, e2]
    unfold Sy.takes
    cases hd : s.dist with
    | true => simp; omega
    | false => simp; omega
theorem tot_range_used (F g : Nat → Nat) (n : Nat) : tot (fun i => F i * g i) (List.range n) = tot (fun i => F i * g i) (usedL F n) := by
  unfold usedL
  rw [tot_filter]
  exact tot_congr _ _ _ fun i _ => by
    by_cases h : 0 < F i
    · simp [h]
    · have : F i = 0 := by omega
      simp [this]
theorem tot_used_le (F h : Nat → Nat) (n : Nat) : tot h (usedL F n) ≤ tot h (List.range n) := by
  unfold usedL
  rw [tot_filter]
  exact tot_le _ _ _ fun i _ => by split <;> omega
theorem fix_kraft : tot (fun i => 2 ^ (15 - fixF i)) (List.range 286) ≤ 2 ^ 15 := by decide +kernel
theorem fix_kraftD : tot (fun _ => 2 ^ (15 - 5)) (List.range 30) ≤ 2 ^ 15 := by decide +kernel
theorem fixF_le (i : Nat) : 1 ≤ fixF i ∧ fixF i ≤ 15 := by unfold fixF; (repeat' split) <;> omega
theorem getD_map (F : Nat → Nat) (n i : Nat) (h : i < n) : ((List.range n).map F).getD i 0 = F i := by simp [List.getD, h]
/-- The best codes take no more bits for symbols than the fixed ones. -/
theorem best_le_fixed (l : List Tok) (hok : ∀ s ∈ symsL l, s.ok) : takesL (bestLit l) (bestDist l) (symsL l) ≤ takesL fixLit fixDist (symsL l) := by
  have hpl : ∀ s, s ∈ symsL l → if s.dist then s.n < 30 else s.n < 286 := fun s hs => (hok s hs).1
  rw [takes_split _ _ 286 30 _ hpl, takes_split _ _ 286 30 _ hpl]
  have a1 : tot (fun i => cntSy false i (symsL l) * (bestLit l).getD i 0) (List.range 286) ≤ tot (fun i => cntSy false i (symsL l) * fixLit.getD i 0) (List.range 286) := by
    rw [tot_congr (fun i => cntSy false i (symsL l) * (bestLit l).getD i 0) (fun i => cntSy false i (symsL l) * bestF false 286 (symsL l) i) _ (fun i hi => by unfold bestLit; rw [getD_map _ _ _ (List.mem_range.1 hi)]),
      tot_congr (fun i => cntSy false i (symsL l) * fixLit.getD i 0) (fun i => cntSy false i (symsL l) * fixF i) _ (fun i hi => by unfold fixLit; rw [getD_map _ _ _ (by have := List.mem_range.1 hi; omega)]),
      tot_range_used (fun i => cntSy false i (symsL l)) (bestF false 286 (symsL l)), tot_range_used (fun i => cntSy false i (symsL l)) fixF]
    exact best_weighs (fun i => cntSy false i (symsL l)) fixF 286 15 (by omega) (by omega) (fun u _ => fixF_le u) (Nat.le_trans (tot_used_le _ _ _) fix_kraft)
  have a2 : tot (fun i => cntSy true i (symsL l) * (bestDist l).getD i 0) (List.range 30) ≤ tot (fun i => cntSy true i (symsL l) * fixDist.getD i 0) (List.range 30) := by
    rw [tot_congr (fun i => cntSy true i (symsL l) * (bestDist l).getD i 0) (fun i => cntSy true i (symsL l) * bestF true 30 (symsL l) i) _ (fun i hi => by unfold bestDist; rw [getD_map _ _ _ (List.mem_range.1 hi)]),
      tot_congr (fun i => cntSy true i (symsL l) * fixDist.getD i 0) (fun i => cntSy true i (symsL l) * (fun _ => 5) i) _ (fun i hi => by unfold fixDist; rw [getD_map (fun _ => 5) _ _ (List.mem_range.1 hi)]),
      tot_range_used (fun i => cntSy true i (symsL l)) (bestF true 30 (symsL l)), tot_range_used (fun i => cntSy true i (symsL l)) (fun _ => 5)]
    exact best_weighs (fun i => cntSy true i (symsL l)) (fun _ => 5) 30 15 (by omega) (by omega) (fun u _ => ⟨by omega, by omega⟩) (Nat.le_trans (tot_used_le _ _ _) fix_kraftD)
  omega
theorem cntSy_pos (d : Bool) (i : Nat) : ∀ L : List Sy, (∃ s, s ∈ L ∧ s.dist = d ∧ s.n = i) → 0 < cntSy d i L
  | [], h => by obtain ⟨s, hs, _⟩ := h; cases hs
  | s :: L, h => by
    obtain ⟨x, hx, h1, h2⟩ := h
    simp only [cntSy]
    rcases List.mem_cons.1 hx with rfl | hx
    · rw [if_pos ⟨h1, h2⟩]; omega
    · have := cntSy_pos d i L ⟨x, hx, h1, h2⟩; omega
theorem lenS_pos (F : Nat → Nat) (n m s : Nat) (h1 : 1 ≤ m) (hn : n ≤ 2 ^ m) (hs : s < n) (h : 0 < F s) : 0 < lenS (ctL F n) m s :=
  (lens_pos _ m h1 (by rw [← posN_sort]; exact Nat.le_trans (posN_le F n) hn) s).2 ⟨(F s : Int), ctL_get F n s hs, by omega⟩
/-- Every symbol that stands there has a code of its own in the best codes, and in the fixed ones. -/
theorem best_has (l : List Tok) (hok : ∀ s ∈ symsL l, s.ok) (s : Sy) (hs : s ∈ symsL l) : 0 < (if s.dist then bestDist l else bestLit l).getD s.n 0 := by
  have h1 := (hok s hs).1
  cases hd : s.dist with
  | true =>
    rw [hd] at h1
    simp only [if_true] at h1 ⊢
    unfold bestDist
    rw [getD_map _ _ _ h1]
    exact lenS_pos _ 30 15 s.n (by omega) (by omega) h1 (cntSy_pos _ _ _ ⟨s, hs, hd, rfl⟩)
  | false =>
    rw [hd] at h1
    simp only [Bool.false_eq_true, if_false] at h1 ⊢
    unfold bestLit
    rw [getD_map _ _ _ h1]
    exact lenS_pos _ 286 15 s.n (by omega) (by omega) h1 (cntSy_pos _ _ _ ⟨s, hs, hd, rfl⟩)
theorem fixed_has (s : Sy) (h : s.ok) : 0 < (if s.dist then fixDist else fixLit).getD s.n 0 := by
  have h1 := h.1
  cases hd : s.dist with
  | true =>
    rw [hd] at h1
    simp only [if_true] at h1 ⊢
    unfold fixDist
    rw [getD_map (fun _ => 5) _ _ h1]
    omega
  | false =>
    rw [hd] at h1
    simp only [Bool.false_eq_true, if_false] at h1 ⊢
    unfold fixLit
    rw [getD_map _ _ _ (by omega)]
    exact (fixF_le _).1
/-- The head takes more than its own numbers. -/
theorem head_more (lit dist : List Nat) (hl : 257 ≤ lit.length) (h8 : ∀ x ∈ lit, x ≤ 15) (k8 : ∀ x ∈ dist, x ≤ 15) : 14 + 12 < headN lit dist := by
  unfold headN
  have h1 := (kl_le lit dist).1
  have h2 : 0 < takesR (ownF lit dist) (rsL lit dist) := by
    have hne : allL lit dist ≠ [] := by
      unfold allL
      intro h
      have h3 := (List.append_eq_nil_iff.1 h).1
      have h4 := congrArg List.length h3
      rw [List.length_take, List.length_nil] at h4
      have h5 := uptoD_ge lit 257 lit.length hl
      unfold uptoL at h4
      omega
    obtain ⟨v, r, hvr⟩ : ∃ v r, allL lit dist = v :: r := by
      cases h : allL lit dist with
      | nil => exact absurd h hne
      | cons v r => exact ⟨v, r, rfl⟩
    have hrk := packL_ok _ (allL_ok h8 k8)
    have hp : ∃ p ps, rsL lit dist = p :: ps := by
      unfold rsL
      rw [hvr, packL_cons]
      have hq : runL v (sameN v r + 1) ≠ [] := by
        unfold runL
        split
        · intro h
          have h3 := repR_lt 18 (sameN v r + 1)
          obtain ⟨h4, h5⟩ := List.append_eq_nil_iff.1 h
          obtain ⟨h6, h7⟩ := List.append_eq_nil_iff.1 h5
          by_cases hlo : loN 18 ≤ sameN v r + 1
          · rw [repL_step 18 _ hlo] at h4; cases h4
          · rw [repR_end 18 _ (by omega)] at h6 h7
            by_cases hlo2 : loN 17 ≤ sameN v r + 1
            · rw [repL_step 17 _ hlo2] at h6; cases h6
            · rw [repR_end 17 _ (by omega)] at h7
              simp at h7
        · simp
      cases hr : runL v (sameN v r + 1) with
      | nil => exact absurd hr hq
      | cons p ps => exact ⟨p, ps ++ packL (List.drop (sameN v r) r), rfl⟩
    obtain ⟨p, ps, hps⟩ := hp
    have hpo := hrk p (by show p ∈ rsL lit dist; rw [hps]; simp)
    have h3 : 0 < ownF lit dist p.1 := by
      unfold ownF
      refine lenS_pos _ 19 7 p.1 (by omega) (by omega) (by have := hpo.1; omega) ?_
      unfold cntR
      rw [hps, List.filter_cons, if_pos (by simp)]
      simp
    rw [hps]
    simp only [takesR]
    omega
  omega
end Go.Proofs.YtciejmlhdmjajaaGreat
namespace Go.Proofs.YtciejmlhdmjajaaGreat
open Go.RowKit
set_option linter.unusedVariables false
set_option linter.unusedSimpArgs false

theorem takesL_take (lit dist : List Nat) (L : List Sy) (k : Nat) (s : Sy) (h : L[k]? = some s) : takesL lit dist (L.take (k + 1)) = takesL lit dist (L.take k) + s.takes lit dist := by
  rw [List.take_add_one, h, takesL_append]
  simp [takesL]
end Go.Proofs.YtciejmlhdmjajaaGreat
namespace Go.Proofs.YtciejmlhdmjajaaGreat
open Go.RowKit
set_option linter.unusedVariables false
set_option linter.unusedSimpArgs false

theorem sym_slice {w : World} {B n : Nat} {v : Value} {xs : List Value} (h : w.ownsRow B 3 1 v n xs) : ∃ g0 c0, v = .slice g0 n c0 := by
  rcases h.2 with ⟨rfl, rfl⟩ | ⟨g, cap, cur, rfl, _⟩
  · exact ⟨_, _, rfl⟩
  · exact ⟨_, _, rfl⟩
set_option maxRecDepth 2000000 in
set_option maxHeartbeats 12800000 in
theorem refLens_c (a : Option Addr) (c : Nat) (l : List Int) (limit : Int) (w : World) (hs : SlOf (Zn .i64) 1 w a l) (hl : l.length ≤ 320) (hgood : ¬ badC l) (hg0 : 1 ≤ limit) (hg1 : limit ≤ 15) (hneed : limit < (needN ((sortC l).length : Int) : Int)) :
    Calls Tryz.prog 51 #[.slice a l.length c, .int .i64 limit] w fun e w' => e = .returned (.tuple #[.slice none 0 0, .int .i64 2]) ∧ Fr [] w w' := by
  have hl1 : (l.length : Int) ≤ 320 := by omega
  have hok0 : ∀ x ∈ l, 0 ≤ x ∧ x ≤ 1073741824 := fun x hx => by
    unfold badC at hgood
    rcases Int.lt_or_le x 0 with h | h
    · exact absurd (.inr ⟨x, hx, .inl h⟩) hgood
    · rcases Int.lt_or_le 1073741824 x with h' | h'
      · exact absurd (.inr ⟨x, hx, .inr h'⟩) hgood
      · exact ⟨h, h'⟩
  have HX := Lib.hid (And.intro hs (And.intro hl hok0))
  have HSY := Lib.hid (symbols_any a c l w hs hl hok0)
  obtain ⟨n, hn⟩ : ∃ n, (sortC l).length = n := ⟨_, rfl⟩
  rw [hn] at HSY hneed
  have hn320 : n ≤ 320 := by have := leafL_len l 0; have := sortC_length l; omega
  have hni : (n : Int) ≤ 320 := by omega
  obtain ⟨nd, hnd⟩ : ∃ nd, needN (n : Int) = nd := ⟨_, rfl⟩
  rw [hnd] at hneed
  have HND := Lib.hid (fun W => refNeeds_any (n : Int) W (by omega) (by omega))
  rw [hnd] at HND
  have HN := Lib.hid (And.intro hn hnd)
  clear hs hgood hl hok0 hn hnd
  go_enter Tryz.func51, Tryz.ntmps51
  go_wp2_with fail
  go_loopw [6] (fun v6 wr => ∃ j : Nat, v6 = .int .i64 (j : Int) ∧ j ≤ l.length ∧ wr = w) (fun v6 _ => l.length - (intOf v6).toNat)
  case atStart => exact ⟨0, rfl, Nat.zero_le _, rfl⟩
  case round =>
    obtain ⟨j, rfl, hj, hw⟩ := hrel
    replace hw := hw.symm
    subst hw
    by_cases hjl : j < l.length
    · have hji : (j : Int) < (l.length : Int) := by omega
      obtain ⟨x, hx⟩ : ∃ x, l[j]? = some x := ⟨l[j], List.getElem?_eq_getElem hjl⟩
      obtain ⟨g1, o1, rfl, hb1, hc1⟩ := HX.out.1 (by intro h; rw [h] at hx; simp at hx)
      have c1 := hc1 j x hx 0 (.int .i64 x) rfl
      rw [Nat.mul_one, Nat.add_zero] at c1
      obtain ⟨h0i, h1i⟩ := HX.out.2.2 x (List.mem_of_getElem? hx)
      clear hc1 hx
      go_wp2_with fail
      exact ⟨⟨j + 1, by go_num, by omega, by first | rfl | trivial⟩, by simp [intOf]; omega⟩
    · have hjd : decide (j < l.length) = false := by simp; omega
      clear hj hjl
      go_wp2_with fail
      refine HSY.out.mono ?_
      rintro e w1 ⟨v, F, rfl, hown, hF, hbel⟩
      obtain ⟨g0, c0, rfl⟩ := sym_slice hown
      have HB := Lib.hid hbel
      clear hown hF hbel
      go_wp2_with fail
      refine (HND.out _).mono ?_
      rintro e w2 ⟨rfl, hw⟩
      replace hw := hw.symm
      subst hw
      go_wp2_with fail
      go_ret2
      exact ⟨rfl, Fr.of_below HB.out⟩
set_option maxRecDepth 2000000 in
set_option maxHeartbeats 12800000 in
theorem refLens_0 (a : Option Addr) (c : Nat) (l : List Int) (limit : Int) (w : World) (hs : SlOf (Zn .i64) 1 w a l) (hl : l.length ≤ 320) (hgood : ¬ badC l) (hg0 : 1 ≤ limit) (hg1 : limit ≤ 15) (hneed : (needN ((sortC l).length : Int) : Int) ≤ limit) (h0 : (sortC l).length = 0) :
    Calls Tryz.prog 51 #[.slice a l.length c, .int .i64 limit] w fun e w' => ∃ gl, e = .returned (.tuple #[.slice (some ⟨gl, 0, none⟩) l.length l.length, .int .i64 0]) ∧ Nrow w' gl 5 .u8 l.length (lenS l limit.toNat) ∧ Fr [] w w' ∧ w.heap.size ≤ gl := by
  have hl1 : (l.length : Int) ≤ 320 := by omega
  have hok0 : ∀ x ∈ l, 0 ≤ x ∧ x ≤ 1073741824 := fun x hx => by
    unfold badC at hgood
    rcases Int.lt_or_le x 0 with h | h
    · exact absurd (.inr ⟨x, hx, .inl h⟩) hgood
    · rcases Int.lt_or_le 1073741824 x with h' | h'
      · exact absurd (.inr ⟨x, hx, .inr h'⟩) hgood
      · exact ⟨h, h'⟩
  have HX := Lib.hid (And.intro hs (And.intro hl hok0))
  have HSY := Lib.hid (symbols_any a c l w hs hl hok0)
  obtain ⟨n, hn⟩ : ∃ n, (sortC l).length = n := ⟨_, rfl⟩
  rw [hn] at HSY hneed h0
  have hn320 : n ≤ 320 := by have := leafL_len l 0; have := sortC_length l; omega
  have hni : (n : Int) ≤ 320 := by omega
  obtain ⟨nd, hnd⟩ : ∃ nd, needN (n : Int) = nd := ⟨_, rfl⟩
  rw [hnd] at hneed
  have HND := Lib.hid (fun W => refNeeds_any (n : Int) W (by omega) (by omega))
  rw [hnd] at HND
  have HN := Lib.hid (And.intro hn hnd)
  have hE := Lib.hid (show ∀ s, lenS l limit.toNat s = 0 from fun s => by unfold lenS; rw [hn, if_pos (by omega), List.eq_nil_of_length_eq_zero (hn.trans h0)]; rfl)
  clear hs hgood hl hok0 hn hnd
  go_enter Tryz.func51, Tryz.ntmps51
  go_wp2_with fail
  go_loopw [6] (fun v6 wr => ∃ j : Nat, v6 = .int .i64 (j : Int) ∧ j ≤ l.length ∧ wr = w) (fun v6 _ => l.length - (intOf v6).toNat)
  case atStart => exact ⟨0, rfl, Nat.zero_le _, rfl⟩
  case round =>
    obtain ⟨j, rfl, hj, hw⟩ := hrel
    replace hw := hw.symm
    subst hw
    by_cases hjl : j < l.length
    · have hji : (j : Int) < (l.length : Int) := by omega
      obtain ⟨x, hx⟩ : ∃ x, l[j]? = some x := ⟨l[j], List.getElem?_eq_getElem hjl⟩
      obtain ⟨g1, o1, rfl, hb1, hc1⟩ := HX.out.1 (by intro h; rw [h] at hx; simp at hx)
      have c1 := hc1 j x hx 0 (.int .i64 x) rfl
      rw [Nat.mul_one, Nat.add_zero] at c1
      obtain ⟨h0i, h1i⟩ := HX.out.2.2 x (List.mem_of_getElem? hx)
      clear hc1 hx
      go_wp2_with fail
      exact ⟨⟨j + 1, by go_num, by omega, by first | rfl | trivial⟩, by simp [intOf]; omega⟩
    · have hjd : decide (j < l.length) = false := by simp; omega
      clear hj hjl
      go_wp2_with fail
      refine HSY.out.mono ?_
      rintro e w1 ⟨v, F, rfl, hown, hF, hbel⟩
      subst h0
      obtain ⟨g0, c0, rfl⟩ := sym_slice hown
      have HB := Lib.hid hbel
      have hmk := run_make_bytes w1 l.length (by have := HX.out.2.1; omega)
      clear hown hF hbel
      go_wp2_with fail
      refine (HND.out _).mono ?_
      rintro e w2 ⟨rfl, hw⟩
      replace hw := hw.symm
      subst hw
      go_wp2_with fail
      go_ret2
      exact ⟨w1.heap.size, rfl, (made_row w1 l.length).congr fun s _ => hE.out s, (Fr.of_below HB.out).trans (Fr.alloc [] _ _), HB.out.size⟩
set_option maxRecDepth 2000000 in
set_option maxHeartbeats 12800000 in
theorem refLens_1 (a : Option Addr) (c : Nat) (l : List Int) (limit : Int) (w : World) (hs : SlOf (Zn .i64) 1 w a l) (hl : l.length ≤ 320) (hgood : ¬ badC l) (hg0 : 1 ≤ limit) (hg1 : limit ≤ 15) (hneed : (needN ((sortC l).length : Int) : Int) ≤ limit) (h0 : (sortC l).length = 1) :
    Calls Tryz.prog 51 #[.slice a l.length c, .int .i64 limit] w fun e w' => ∃ gl, e = .returned (.tuple #[.slice (some ⟨gl, 0, none⟩) l.length l.length, .int .i64 0]) ∧ Nrow w' gl 5 .u8 l.length (lenS l limit.toNat) ∧ Fr [] w w' ∧ w.heap.size ≤ gl := by
  have hl1 : (l.length : Int) ≤ 320 := by omega
  have hok0 : ∀ x ∈ l, 0 ≤ x ∧ x ≤ 1073741824 := fun x hx => by
    unfold badC at hgood
    rcases Int.lt_or_le x 0 with h | h
    · exact absurd (.inr ⟨x, hx, .inl h⟩) hgood
    · rcases Int.lt_or_le 1073741824 x with h' | h'
      · exact absurd (.inr ⟨x, hx, .inr h'⟩) hgood
      · exact ⟨h, h'⟩
  have HX := Lib.hid (And.intro hs (And.intro hl hok0))
  have HSY := Lib.hid (symbols_any a c l w hs hl hok0)
  obtain ⟨n, hn⟩ : ∃ n, (sortC l).length = n := ⟨_, rfl⟩
  rw [hn] at HSY hneed h0
  have hn320 : n ≤ 320 := by have := leafL_len l 0; have := sortC_length l; omega
  have hni : (n : Int) ≤ 320 := by omega
  obtain ⟨nd, hnd⟩ : ∃ nd, needN (n : Int) = nd := ⟨_, rfl⟩
  rw [hnd] at hneed
  have HND := Lib.hid (fun W => refNeeds_any (n : Int) W (by omega) (by omega))
  rw [hnd] at HND
  have HN := Lib.hid (And.intro hn hnd)
  clear hs hgood hl hok0 hn hnd
  go_enter Tryz.func51, Tryz.ntmps51
  go_wp2_with fail
  go_loopw [6] (fun v6 wr => ∃ j : Nat, v6 = .int .i64 (j : Int) ∧ j ≤ l.length ∧ wr = w) (fun v6 _ => l.length - (intOf v6).toNat)
  case atStart => exact ⟨0, rfl, Nat.zero_le _, rfl⟩
  case round =>
    obtain ⟨j, rfl, hj, hw⟩ := hrel
    replace hw := hw.symm
    subst hw
    by_cases hjl : j < l.length
    · have hji : (j : Int) < (l.length : Int) := by omega
      obtain ⟨x, hx⟩ : ∃ x, l[j]? = some x := ⟨l[j], List.getElem?_eq_getElem hjl⟩
      obtain ⟨g1, o1, rfl, hb1, hc1⟩ := HX.out.1 (by intro h; rw [h] at hx; simp at hx)
      have c1 := hc1 j x hx 0 (.int .i64 x) rfl
      rw [Nat.mul_one, Nat.add_zero] at c1
      obtain ⟨h0i, h1i⟩ := HX.out.2.2 x (List.mem_of_getElem? hx)
      clear hc1 hx
      go_wp2_with fail
      exact ⟨⟨j + 1, by go_num, by omega, by first | rfl | trivial⟩, by simp [intOf]; omega⟩
    · have hjd : decide (j < l.length) = false := by simp; omega
      clear hj hjl
      go_wp2_with fail
      refine HSY.out.mono ?_
      rintro e w1 ⟨v, F, rfl, hown, hF, hbel⟩
      subst h0
      have HB := Lib.hid hbel
      rcases hown.2 with ⟨_, h⟩ | ⟨gs, cs, cur, rfl, _⟩
      · omega
      have hmk := run_make_bytes w1 l.length (by have := HX.out.2.1; omega)
      obtain ⟨cc, hcc, hc0, _⟩ := refS_is hF (k := 0) (by omega)
      have hfl := (List.getElem?_eq_some_iff.1 hcc).1
      have q0 := own_cell hown 0 (by omega)
      obtain ⟨u, hu⟩ : ∃ u, F 0 = u := ⟨_, rfl⟩
      rw [hu] at q0 hfl
      have hui : (u : Int) < (l.length : Int) := by omega
      have hgs := (hown.lt gs rfl).2
      have hM := made_row w1 l.length
      have d0 := hM.cell u hfl
      have fz := free_of hM u
      have hlens : ∀ s, lenS l limit.toNat s = if s = u then 1 else 0 := fun s => by
        unfold lenS
        have hS : sortC l = [(wt0 l (F 0), F 0)] := by rw [← hF]; rfl
        rw [hS, if_pos (by simp)]
        simp [tot, hu]
      have HE := Lib.hid hlens
      clear hown hF hbel hM hcc hfl hu hlens
      go_wp2_with fail
      refine (HND.out _).mono ?_
      rintro e w2 ⟨rfl, hw⟩
      replace hw := hw.symm
      subst hw
      go_wp2_with fail
      go_ret2
      exact ⟨w1.heap.size, rfl, (made_one w1 l.length u).congr fun s _ => HE.out s, (Fr.of_below HB.out).trans (Fr.alloc [] _ _), HB.out.size⟩
end Go.Proofs.YtciejmlhdmjajaaGreat
namespace Go.Proofs.YtciejmlhdmjajaaGreat
open Go.RowKit
set_option linter.unusedVariables false
set_option linter.unusedSimpArgs false

theorem lev_occs (l : List Int) (j k : Nat) (hk : k ≤ (lev PT.node ((sortC l).map leafP) j).length) (s : Nat) :
    tot (fun x : Nat × PT => occ x.2 s) ((lev PT.node ((sortC l).map leafP) j).take k) ≤ j + 1 ∧ ((∀ p ∈ sortC l, s ≠ p.2) → tot (fun x : Nat × PT => occ x.2 s) ((lev PT.node ((sortC l).map leafP) j).take k) = 0) := by
  obtain ⟨a, a1, a2, a3, _, _⟩ := len_shape symP PT.node occ (fun _ _ _ => rfl) ((sortC l).map leafP) (occ_leafP _) (sortC_srt l) j k hk
  rw [a3]
  refine ⟨?_, fun hn => ?_⟩
  · have hone : ∀ m, kap symP (((sortC l).map leafP).take m) s ≤ 1 := by
      intro m
      by_cases hex : ∃ x ∈ (sortC l).map leafP, s = symP x.2
      · obtain ⟨x, hx, rfl⟩ := hex
        obtain ⟨q, hq⟩ := List.getElem?_of_mem hx
        rw [kap_get symP _ m q x (sortC_dst l) hq]
        split <;> omega
      · rw [kap_out symP _ s fun y hy he => hex ⟨y, List.mem_of_mem_take hy, he⟩]; omega
    refine Nat.le_trans (sumTo_le _ (fun _ => 1) j fun i _ => hone _) ?_
    rw [sumTo_const]; omega
  · rw [sumTo_congr _ (fun _ => 0) j (fun i _ => kap_out symP _ _ fun y hy he => by
      obtain ⟨p, hp, rfl⟩ := List.mem_map.1 (List.mem_of_mem_take hy)
      exact hn p hp he), sumTo_const]
    simp
theorem occ_some : ∀ p : PT, ∃ s, 0 < occ p s
  | .leaf s => ⟨s, by simp [occ]⟩
  | .node a b => by obtain ⟨s, h⟩ := occ_some a; exact ⟨s, by simp only [occ]; omega⟩
/-- How often a symbol is in the first things of a row. -/
def sumL (R : List (Nat × PT)) (i s : Nat) : Nat := tot (fun x : Nat × PT => occ x.2 s) (R.take i)
theorem sumL_succ (R : List (Nat × PT)) (i s : Nat) (hi : i < R.length) : sumL R (i + 1) s = sumL R i s + occ (R.getD i d0).2 s := by
  unfold sumL
  rw [List.take_add_one, List.getElem?_eq_getElem hi, tot_append, List.getD_eq_getElem?_getD, List.getElem?_eq_getElem hi]
  simp [tot]
/-- What is out behind i things and k symbols of the next one. -/
def outV (R : List (Nat × PT)) (F : Nat → Nat) (i k s : Nat) : Nat := (sumL R i s + if ((List.range k).any fun t => F t == s) = true then occ (R.getD i d0).2 s else 0) % 256
theorem outV_zero (R : List (Nat × PT)) (F : Nat → Nat) (i s : Nat) : outV R F i 0 s = sumL R i s % 256 := by simp [outV]
theorem any_iff (F : Nat → Nat) (k s : Nat) : ((List.range k).any fun t => F t == s) = true ↔ ∃ t, t < k ∧ F t = s := by
  rw [List.any_eq_true]
  constructor
  · rintro ⟨t, ht, he⟩; exact ⟨t, List.mem_range.1 ht, by simpa using he⟩
  · rintro ⟨t, ht, he⟩; exact ⟨t, List.mem_range.2 ht, by simpa using he⟩
theorem outV_step (R : List (Nat × PT)) (F : Nat → Nat) (n i k : Nat) (hk : k < n) (hinj : ∀ a b, a < n → b < n → F a = F b → a = b) (s : Nat) :
    outV R F i (k + 1) s = if s = F k then (outV R F i k (F k) + vecP F (R.getD i d0).2 k) % 256 else outV R F i k s := by
  unfold outV vecP
  by_cases hs : s = F k
  · subst hs
    rw [if_pos rfl, if_pos ((any_iff F (k + 1) (F k)).2 ⟨k, by omega, rfl⟩), if_neg (fun h => by
      obtain ⟨t, ht, he⟩ := (any_iff F k (F k)).1 h
      have := hinj t k (by omega) hk he
      omega)]
    omega
  · rw [if_neg hs]
    congr 2
    have : (((List.range (k + 1)).any fun t => F t == s) = true) ↔ (((List.range k).any fun t => F t == s) = true) := by
      rw [any_iff, any_iff]
      constructor
      · rintro ⟨t, ht, he⟩
        by_cases htk : t = k
        · subst htk; exact absurd he.symm hs
        · exact ⟨t, by omega, he⟩
      · rintro ⟨t, ht, he⟩; exact ⟨t, by omega, he⟩
    by_cases h : ((List.range k).any fun t => F t == s) = true
    · rw [if_pos h, if_pos (this.2 h)]
    · rw [if_neg h, if_neg (fun h' => h (this.1 h'))]
theorem outV_done (l : List Int) (F : Nat → Nat) (n i j : Nat) (hF : (List.range n).map (fun k => (wt0 l (F k), F k)) = sortC l) (hi : i < (lev PT.node ((sortC l).map leafP) j).length) (s : Nat) :
    outV (lev PT.node ((sortC l).map leafP) j) F i n s = sumL (lev PT.node ((sortC l).map leafP) j) (i + 1) s % 256 := by
  rw [sumL_succ _ _ _ hi]
  unfold outV
  by_cases h : ((List.range n).any fun t => F t == s) = true
  · rw [if_pos h]
  · rw [if_neg h]
    have hz := (lev_occs l j (i + 1) (by omega) s).2 (fun p hp he => h ((any_iff F n s).2 (by
      rw [← hF] at hp
      obtain ⟨t, ht, rfl⟩ := List.mem_map.1 hp
      exact ⟨t, List.mem_range.1 ht, he.symm⟩)))
    have := sumL_succ (lev PT.node ((sortC l).map leafP) j) i s hi
    unfold sumL at this ⊢
    rw [hz] at this
    congr 1; omega
/-- No row of a thing is all noughts. -/
theorem vec_some (l : List Int) (F : Nat → Nat) (n j : Nat) (hj : j ≤ 14) (hF : (List.range n).map (fun k => (wt0 l (F k), F k)) = sortC l) (i : Nat) (hi : i < (lev PT.node ((sortC l).map leafP) j).length) :
    ∃ k, k < n ∧ vecP F ((lev PT.node ((sortC l).map leafP) j).getD i d0).2 k ≠ 0 := by
  obtain ⟨s, hs⟩ := occ_some ((lev PT.node ((sortC l).map leafP) j).getD i d0).2
  have hsum := sumL_succ (lev PT.node ((sortC l).map leafP) j) i s hi
  obtain ⟨h1, h2⟩ := lev_occs l j (i + 1) (by omega) s
  unfold sumL at hsum
  have hex : ∃ p ∈ sortC l, s = p.2 := by
    apply Classical.byContradiction
    intro hn
    have := h2 (fun p hp he => hn ⟨p, hp, he⟩)
    omega
  obtain ⟨p, hp, rfl⟩ := hex
  rw [← hF] at hp
  obtain ⟨k, hk, rfl⟩ := List.mem_map.1 hp
  refine ⟨k, List.mem_range.1 hk, ?_⟩
  unfold vecP
  simp only at hs hsum h1
  rw [Nat.mod_eq_of_lt (by omega)]
  omega
theorem nrow_ne {w : World} {g g' n m : Nat} {A : Nat → Nat} (h : Nrow w g 5 .u8 n A) (h' : Nrow w g' 5 .u8 m (fun _ => 0)) (hk : ∃ k, k < n ∧ A k ≠ 0) : g ≠ g' := by
  rintro rfl
  obtain ⟨k, hk, hA⟩ := hk
  have c := h.cell k hk
  by_cases hm : k < m
  · rw [h'.cell k hm] at c
    simp at c
    omega
  · rw [cell_of h'] at c
    simp at c
    omega
end Go.Proofs.YtciejmlhdmjajaaGreat
namespace Go.Proofs.YtciejmlhdmjajaaGreat
open Go.RowKit
set_option linter.unusedVariables false
set_option linter.unusedSimpArgs false

theorem Vrow.base {w : World} {B B' : Nat} {v : Value} {n : Nat} {sy : Nat → Nat} {R : List (Nat × PT)} (h : Vrow w B v n sy R) (hB : B' ≤ B) : Vrow w B' v n sy R := by
  obtain ⟨G, h1, h2⟩ := h
  refine ⟨G, ⟨h1.1, ?_⟩, h2⟩
  rcases h1.2 with h | ⟨g, cap, cur, a1, a2, a3⟩
  · exact .inl h
  · exact .inr ⟨g, cap, cur, a1, by omega, a3⟩
theorem Vrow.form {w : World} {B : Nat} {v : Value} {n : Nat} {sy : Nat → Nat} {R : List (Nat × PT)} (h : Vrow w B v n sy R) (h0 : 0 < R.length) : ∃ g c, v = .slice (some ⟨g, 0, none⟩) R.length c := by
  obtain ⟨G, h1, _⟩ := h
  rcases h1.2 with ⟨_, h⟩ | ⟨g, cap, cur, rfl, _⟩
  · omega
  · exact ⟨g, cap, rfl⟩
/-- What holds at the head of a round of the loop that makes the leaves. -/
def LeavesR (w3 : World) (n : Nat) (F : Nat → Nat) (LL : List (Nat × PT)) (v10 v11 : Value) (wr : World) : Prop :=
  ∃ (i : Nat) (u10 : Value), u10 = v10 ∧ v11 = .int .i64 (i : Int) ∧ i ≤ n ∧ Vrow wr w3.heap.size v10 n F (LL.take i) ∧ Below w3.heap.size w3 wr
/-- What holds at the head of a round of the loop over the levels. -/
def LevelsR (w3 : World) (n m gl cl : Nat) (F : Nat → Nat) (LL : List (Nat × PT)) (v12 v13 : Value) (wr : World) : Prop :=
  ∃ (j gr cr : Nat), v12 = .slice (some ⟨gr, 0, none⟩) (lev PT.node LL j).length cr ∧ v13 = .int .i64 ((j + 2 : Nat) : Int) ∧ j + 1 ≤ m ∧ Vrow wr w3.heap.size (.slice (some ⟨gr, 0, none⟩) (lev PT.node LL j).length cr) n F (lev PT.node LL j) ∧ Vrow wr w3.heap.size (.slice (some ⟨gl, 0, none⟩) LL.length cl) n F LL ∧ Fr [] w3 wr
set_option maxRecDepth 2000000 in
set_option maxHeartbeats 12800000 in
theorem refLens_n (a : Option Addr) (c : Nat) (l : List Int) (limit : Int) (w : World) (hs : SlOf (Zn .i64) 1 w a l) (hl : l.length ≤ 320) (hgood : ¬ badC l) (hg0 : 1 ≤ limit) (hg1 : limit ≤ 15) (hneed : (needN ((sortC l).length : Int) : Int) ≤ limit) (h0 : 2 ≤ (sortC l).length) :
    Calls Tryz.prog 51 #[.slice a l.length c, .int .i64 limit] w fun e w' => ∃ gl, e = .returned (.tuple #[.slice (some ⟨gl, 0, none⟩) l.length l.length, .int .i64 0]) ∧ Nrow w' gl 5 .u8 l.length (lenS l limit.toNat) ∧ Fr [] w w' ∧ w.heap.size ≤ gl := by
  have hl1 : (l.length : Int) ≤ 320 := by omega
  have hok0 : ∀ x ∈ l, 0 ≤ x ∧ x ≤ 1073741824 := fun x hx => by
    unfold badC at hgood
    rcases Int.lt_or_le x 0 with h | h
    · exact absurd (.inr ⟨x, hx, .inl h⟩) hgood
    · rcases Int.lt_or_le 1073741824 x with h' | h'
      · exact absurd (.inr ⟨x, hx, .inr h'⟩) hgood
      · exact ⟨h, h'⟩
  have HX := Lib.hid (And.intro hs (And.intro hl hok0))
  have HSY := Lib.hid (symbols_any a c l w hs hl hok0)
  obtain ⟨n, hn⟩ : ∃ n, (sortC l).length = n := ⟨_, rfl⟩
  rw [hn] at HSY hneed h0
  have hn320 : n ≤ 320 := by have := leafL_len l 0; have := sortC_length l; omega
  have hni : (n : Int) ≤ 320 := by omega
  obtain ⟨nd, hnd⟩ : ∃ nd, needN (n : Int) = nd := ⟨_, rfl⟩
  rw [hnd] at hneed
  have HND := Lib.hid (fun W => refNeeds_any (n : Int) W (by omega) (by omega))
  rw [hnd] at HND
  have HN := Lib.hid (And.intro hn hnd)
  have hdl1 : decide (limit < 1) = false := by simp; omega
  have hdl2 : decide (15 < limit) = false := by simp; omega
  have hdl3 : decide (limit < (nd : Int)) = false := by simp; omega
  clear hs hgood hl hok0 hn hnd
  go_enter Tryz.func51, Tryz.ntmps51
  go_wp2_with fail
  go_loopw [6] (fun v6 wr => ∃ j : Nat, v6 = .int .i64 (j : Int) ∧ j ≤ l.length ∧ wr = w) (fun v6 _ => l.length - (intOf v6).toNat)
  case atStart => exact ⟨0, rfl, Nat.zero_le _, rfl⟩
  case round =>
    obtain ⟨j, rfl, hj, hw⟩ := hrel
    replace hw := hw.symm
    subst hw
    by_cases hjl : j < l.length
    · have hji : (j : Int) < (l.length : Int) := by omega
      obtain ⟨x, hx⟩ : ∃ x, l[j]? = some x := ⟨l[j], List.getElem?_eq_getElem hjl⟩
      obtain ⟨g1, o1, rfl, hb1, hc1⟩ := HX.out.1 (by intro h; rw [h] at hx; simp at hx)
      have c1 := hc1 j x hx 0 (.int .i64 x) rfl
      rw [Nat.mul_one, Nat.add_zero] at c1
      obtain ⟨h0i, h1i⟩ := HX.out.2.2 x (List.mem_of_getElem? hx)
      clear hc1 hx
      go_wp2_with fail
      exact ⟨⟨j + 1, by go_num, by omega, by first | rfl | trivial⟩, by simp [intOf]; omega⟩
    · have hjd : decide (j < l.length) = false := by simp; omega
      clear hj hjl
      go_wp2_with fail
      refine HSY.out.mono ?_
      rintro e w1 ⟨v, F, rfl, hown, hF, hbel⟩
      have HB := Lib.hid hbel
      rcases hown.2 with ⟨_, h⟩ | ⟨gs, cs, cur, rfl, _⟩
      · omega
      have hmk := run_make_bytes w1 l.length (by have := HX.out.2.1; omega)
      have hn2 : 2 ≤ (n : Int) := by omega
      have hd1 : ((n : Int) == 1) = false := by rw [beq_eq_false_iff_ne]; omega
      have hd2 : decide ((n : Int) < 2) = false := by simp; omega
      have HS := Lib.hid (And.intro hown hF)
      obtain ⟨LL, hLL⟩ : ∃ LL, LL = (sortC l).map leafP := ⟨_, rfl⟩
      have HLL := Lib.hid hLL
      clear hown hF hbel hLL
      go_wp2_with fail
      refine (HND.out _).mono ?_
      rintro e w2 ⟨rfl, hw⟩
      replace hw := hw.symm
      subst hw
      go_wp2_with fail
      obtain ⟨w3, hw3⟩ : ∃ w3, w1.alloc (.cells (Lib.byteCells (List.replicate l.length 0)).toArray 5) = w3 := ⟨_, rfl⟩
      have hf3 : Fr [] w1 w3 := by rw [← hw3]; exact Fr.alloc [] _ _
      have hM3 : Nrow w3 w1.heap.size 5 .u8 l.length (fun _ => 0) := by rw [← hw3]; exact made_row w1 l.length
      rw [hw3]
      have H3 := Lib.hid (And.intro hf3 hM3)
      clear hf3 hM3 hw3 hmk
      go_loopw [10, 11] (fun v10 v11 wr => LeavesR w3 n F LL v10 v11 wr) (fun _ v11 _ => n - (intOf v11).toNat)
      case atStart => exact ⟨0, _, rfl, rfl, Nat.zero_le _, by simpa using Vrow.nil _ _ _ _, Below.refl _ _⟩
      case round =>
        obtain ⟨i, u10, rfl, rfl, hi, hV, hbel⟩ := hrel
        by_cases hin : i < n
        · have hii : (i : Int) < (n : Int) := by omega
          obtain ⟨cc, hcc, hc0, hcw⟩ := refS_is HS.out.2 hin
          obtain ⟨cn, rfl⟩ := Int.eq_ofNat_of_zero_le (show 0 ≤ cc by omega)
          have hfl := (List.getElem?_eq_some_iff.1 hcc).1
          have q0 := own_cell HS.out.1 i hin
          have hgs := (HS.out.1.lt gs rfl).2
          obtain ⟨u, hu⟩ : ∃ u, F i = u := ⟨_, rfl⟩
          rw [hu] at q0 hfl hcc
          have hui : (u : Int) < (l.length : Int) := by omega
          have hbw3 : Below w1.heap.size w1 wr := ((H3.out.1).trans (Fr.of_below hbel)).below
          have q1 : wr.cell? ⟨gs, i, none⟩ = some (.int .i64 (u : Int)) := by rw [hbw3.cell (p := ⟨gs, i, none⟩) hgs]; exact q0
          obtain ⟨g1, o1, rfl, hb1, hc1⟩ := HX.out.1 (by intro h; rw [h] at hcc; simp at hcc)
          have c1 := hc1 u cn hcc 0 (.int .i64 (cn : Int)) rfl
          rw [Nat.mul_one, Nat.add_zero] at c1
          have hbw : Below w.heap.size w wr := ((Fr.of_below (l := []) HB.out).trans (Fr.of_below hbw3)).below
          have q2 : wr.cell? ⟨g1, o1 + u, none⟩ = some (.int .i64 (cn : Int)) := by rw [hbw.cell (p := ⟨g1, o1 + u, none⟩) hb1]; exact c1
          have hgsr : gs < wr.heap.size := by have := hbw3.size; omega
          have hg1r : g1 < wr.heap.size := by have := hbw.size; omega
          have hcb := (HX.out.2.2 _ (List.mem_of_getElem? hcc)).2
          have hcb2 : (cn : Int) ≤ 1073741824 := hcb
          have HLF := Lib.hid (leaf_any cn i n wr (by omega) hin (by omega))
          unfold rv at HLF
          obtain ⟨G, hG1, hG2⟩ := hV
          have hLll : (LL.take i).length = i := by rw [HLL.out, List.length_take, List.length_map, HN.out.1]; omega
          unfold rowCells at hG1
          rw [hLll] at hG1 hG2
          have hLx : LL[i]? = some (cn, .leaf (F i)) := by rw [HLL.out, List.getElem?_map, refS_get HS.out.2 hin, hcw]; simp [leafP]
          have HV := Lib.hid (And.intro hG1 (And.intro hG2 (And.intro hLll (And.intro hLx hbel))))
          have hsz := hbel.size
          clear hG1 hG2 hLll hLx hbel hcc hfl q0 c1 hc1 hu hbw3 hbw hcw hcb
          go_wp2_with fail
          refine HLF.out.mono ?_
          rintro e w5 ⟨g5, rfl, hge5, hN5, f5⟩
          have H5 := Lib.hid (And.intro hN5 f5)
          have HO5 := Lib.hid (ownsRow_to HV.out.1 f5 (by simp))
          have HB5 := Lib.hid (f5.out HV.out.2.2.2.2 (by simp))
          have hsz5 : w3.heap.size ≤ w5.heap.size := Nat.le_trans hsz f5.size
          clear hge5 hN5 f5
          go_wp2_with (first | (at_builtin; go_must (refine wpList_push w3.heap.size w3 w5 rfl (.tmp 71) (.tmp 82) 134 rfl 136 2 32 elemV u10 i _ rfl HO5 HB5 hsz5 #[.int .i64 (cn : Int), .slice (some ⟨g5, 0, none⟩) n n] 1 1 rfl rfl rfl (by omega) (by omega) (by omega) ?_); intro g6 c6 w6 HQ))
          go_roundw
          case rel =>
            obtain ⟨hG1, hG2, hLll, hLx, hbel⟩ := HV.out
            have fA := (H5.out.2).trans (Fr.alloc [] w5 (.cells #[.int .i64 (cn : Int), .slice (some ⟨g5, 0, none⟩) n n] 136))
            have hownA := ownsRow_to hG1 fA (by simp)
            refine ⟨i + 1, _, rfl, by go_num, by omega, ?_, HQ.out.below⟩
            rw [List.take_add_one, hLx, Option.toList_some]
            refine Vrow.snoc (g := g5) (G := G) ?_ (fun k hk => ?_) ?_
            · rw [hLll]
              have := HQ.out.own
              unfold rowCells
              rw [hLll]
              exact this
            · rw [hLll] at hk
              exact vecs_grown hownA HQ.out.grown ((hG2 k hk).to fA (by simp))
            · refine (vecs_grown hownA HQ.out.grown ((H5.out.1).to (Fr.alloc [] w5 _) (by simp))).congr fun k hk => ?_
              unfold vecP
              simp only [occ]
              by_cases e : k = i
              · subst e; simp
              · rw [if_neg e, if_neg (fun h => e (refS_inj HS.out.2 hk hin h))]
          case measure => simp [intOf]; omega
        · have hie : i = n := by omega
          have hid : decide (i < n) = false := by simp; omega
          have hLl : LL.length = n := by rw [HLL.out, List.length_map, HN.out.1]
          rw [hie, List.take_of_length_le (by omega)] at hV
          obtain ⟨gl, cl, hv⟩ := hV.form (by omega)
          rw [hLl] at hv
          subst hv
          have HV := Lib.hid (And.intro hV (And.intro hbel hLl))
          clear hV hbel hLl hie hi hin
          obtain ⟨m, rfl⟩ := Int.eq_ofNat_of_zero_le (show 0 ≤ limit by omega)
          go_wp2_with fail
          go_loopw [12, 13] (fun v12 v13 wr => LevelsR w3 n m gl cl F LL v12 v13 wr) (fun _ v13 _ => m + 1 - (intOf v13).toNat)
          case atStart =>
            obtain ⟨h1, h2, h3⟩ := HV.out
            exact ⟨0, gl, cl, by rw [lev, h3], rfl, by omega, by rw [lev, h3]; exact h1, by rw [h3]; exact h1, Fr.of_below h2⟩
          case round =>
            obtain ⟨j, gr, cr, rfl, rfl, hj, hVR, hVL, hf⟩ := hrel
            obtain ⟨k, hk⟩ : ∃ k, j + 2 = k := ⟨_, rfl⟩
            rw [hk]
            obtain ⟨R, hR⟩ : ∃ R, lev PT.node LL j = R := ⟨_, rfl⟩
            have hRl : n ≤ R.length ∧ R.length ≤ 2 * n := by
              rw [← hR]
              have hLl := HV.out.2.2
              refine ⟨?_, by have := lev_le PT.node LL j; omega⟩
              cases j with
              | zero => rw [lev]; omega
              | succ j => rw [lev_length]; omega
            have hLw : ∀ x ∈ LL, x.1 ≤ 1073741824 := fun x hx => by
              rw [HLL.out] at hx
              obtain ⟨p, hp, rfl⟩ := List.mem_map.1 hx
              obtain ⟨c', hc', _, h3⟩ := (sortC_mem l p).1 hp
              have := (HX.out.2.2 c' (List.mem_of_getElem? hc')).2
              simp only [leafP]; omega
            have hRw := lev_w hLw j
            rw [hR] at hVR hRw ⊢
            have hm15 : m ≤ 15 := by omega
            have hjk : j ≤ 14 := by omega
            have hpow : 2 ^ (30 + j) ≤ 2 ^ 44 := Nat.pow_le_pow_right (by decide) (by omega)
            by_cases hkm : k ≤ m
            · have hkmi : (k : Int) ≤ (m : Int) := by omega
              have HNX := Lib.hid (next_any n gl cl gr cr F LL R wr w3.heap.size w3.heap.size hVL hVR (by omega) (by omega) (by omega) (by have := HV.out.2.2; omega) (fun x hx => by have := hRw x hx; omega) (fun x hx => by have := hLw x hx; omega))
              rw [HV.out.2.2] at HNX
              have HJ := Lib.hid (And.intro hk (And.intro hR (And.intro hVL (And.intro hf hRl))))
              obtain ⟨rl, hrl⟩ : ∃ rl, R.length = rl := ⟨_, rfl⟩
              rw [hrl] at HNX ⊢
              clear hRl hLw hRw hVR hVL hf hk hR hpow hj hrl
              go_wp2_with fail
              refine HNX.out.mono ?_
              rintro e w5 ⟨v, rfl, hV5, hb5⟩
              have hlev : lev PT.node LL (j + 1) = mrg LL (prs PT.node R) := by rw [lev, HJ.out.2.1]
              have hll : 0 < (lev PT.node LL (j + 1)).length := by rw [lev_length, HV.out.2.2]; omega
              rw [← hlev] at hV5
              obtain ⟨g5, c5, rfl⟩ := hV5.form hll
              have H5 := Lib.hid (And.intro hV5 hb5)
              clear hV5 hb5 hlev hll
              go_wp2_with fail
              go_roundw
              case rel =>
                obtain ⟨hk, hR, hVL, hf, hRl⟩ := HJ.out
                exact ⟨j + 1, g5, c5, rfl, by rw [← hk]; go_num, by omega, (H5.out.1).base hf.size, hVL.to (Fr.of_below H5.out.2), hf.trans (Fr.of_below H5.out.2)⟩
              case measure => simp [intOf]; omega
            · have hkd : decide (k ≤ m) = false := by simp; omega
              have hjm : j + 1 = m := by omega
              obtain ⟨n2, hn2e⟩ : ∃ n2, 2 * n = n2 := ⟨_, rfl⟩
              obtain ⟨K, hKe⟩ : ∃ K, n2 - 2 = K := ⟨_, rfl⟩
              have e1 : (2 : Int) * (n : Int) = (n2 : Int) := by omega
              have e2 : (n2 : Int) - 2 = (K : Int) := by omega
              have hn2b : (n2 : Int) ≤ 640 := by omega
              have hn2c : 4 ≤ (n2 : Int) := by omega
              have hKb : (K : Int) ≤ 640 := by omega
              rw [HLL.out] at hR
              have hroom : K ≤ R.length := by
                rw [← hR]
                have h4 := lev_room PT.node ((sortC l).map leafP) j 2 (by
                  have := need_room (n := n) (k := m) (by rw [HN.out.2]; omega)
                  rw [List.length_map, HN.out.1, ← hjm, Nat.pow_succ] at *
                  omega)
                rw [List.length_map, HN.out.1] at h4
                omega
              obtain ⟨GR, hGR1, hGR2⟩ := hVR
              obtain ⟨rl, hrl⟩ : ∃ rl, R.length = rl := ⟨_, rfl⟩
              have hgr := hGR1.lt gr rfl
              have hout := (H3.out.2).to hf (by simp)
              have hgo3 : w3.heap.size = w1.heap.size + 1 ∨ w1.heap.size < w3.heap.size := .inr (lt_of H3.out.2)
              have hgor : gr ≠ w1.heap.size := by have := hgr.1; have := lt_of H3.out.2; omega
              have hGne : ∀ t, t < R.length → GR t ≠ w1.heap.size := fun t ht => nrow_ne (hGR2 t ht) hout (by
                have := vec_some l F n j hjk HS.out.2 t (by rw [hR]; exact ht)
                rwa [hR] at this)
              rw [hrl] at hroom
              have hroomi : (K : Int) ≤ (rl : Int) := by omega
              have hrlb : (rl : Int) ≤ 640 := by omega
              have HJ := Lib.hid (And.intro hR (And.intro hGR1 (And.intro hGR2 (And.intro hGne (And.intro hout (And.intro hf (And.intro hrl (And.intro hn2e (And.intro hKe (And.intro hjm (And.intro hroom (And.intro hgr.2 hgor))))))))))))
              rw [hrl]
              have hgs1 := (HS.out.1.lt gs rfl).2
              have hgs3 : gs < w3.heap.size := by have := lt_of H3.out.2; omega
              clear hRl hLw hRw hVL hf hk hR hpow hj hjm hkm hGR1 hGR2 hGne hout hgor hgo3 hrl hn2e hKe hroom hgr
              obtain ⟨wo, hwo⟩ : ∃ wo, wo = wr := ⟨wr, rfl⟩
              subst hwo
              go_wp2_with fail
              go_loopw [14, 15] (fun v14 _ wr => ∃ i : Nat, v14 = .int .i64 (i : Int) ∧ i ≤ K ∧ Hid (Nrow wr w1.heap.size 5 .u8 l.length (fun s => sumL R i s % 256)) ∧ Fr [w1.heap.size] wo wr) (fun v14 _ _ => K - (intOf v14).toNat)
              case atStart => exact ⟨0, rfl, Nat.zero_le _, Lib.hid (HJ.out.2.2.2.2.1.congr fun s _ => by simp [sumL, tot]), Fr.refl _ _⟩
              case round =>
                obtain ⟨i', rfl, hi', hN, hf⟩ := hrel
                by_cases hiK : i' < K
                · have hiKi : (i' : Int) < (K : Int) := by omega
                  have hirl : (i' : Int) < (rl : Int) := by omega
                  have HO := Lib.hid (And.intro hN.out hf)
                  clear hN hf
                  go_wp2_with fail
                  go_loopw [15] (fun v15 wr => ∃ t : Nat, v15 = .int .i64 (t : Int) ∧ t ≤ n ∧ Hid (Nrow wr w1.heap.size 5 .u8 l.length (outV R F i' t)) ∧ Fr [w1.heap.size] wo wr) (fun v15 _ => n - (intOf v15).toNat)
                  case atStart => exact ⟨0, rfl, Nat.zero_le _, Lib.hid (HO.out.1.congr fun s _ => outV_zero R F i' s), HO.out.2⟩
                  case round =>
                    clear HO
                    obtain ⟨t, rfl, ht, hN, hf⟩ := hrel
                    by_cases htn : t < n
                    · have hti : (t : Int) < (n : Int) := by omega
                      obtain ⟨cc, hcc, hc0, _⟩ := refS_is HS.out.2 htn
                      have hfl := (List.getElem?_eq_some_iff.1 hcc).1
                      have q0 := own_cell HS.out.1 t htn
                      obtain ⟨u, hu⟩ : ∃ u, F t = u := ⟨_, rfl⟩
                      rw [hu] at q0 hfl
                      have hui : (u : Int) < (l.length : Int) := by omega
                      obtain ⟨hR, hGR1, hGR2, hGne, hout, hfo, hrl, hn2e, hKe, hjm, hroom, hgr2, hgor⟩ := HJ.out
                      have hlt1 : w1.heap.size < wo.heap.size := lt_of hout
                      have s0 : wr.cell? ⟨gs, t, none⟩ = some (.int .i64 (u : Int)) := by
                        have e1 : wo.cell? ⟨gs, t, none⟩ = w1.cell? ⟨gs, t, none⟩ := ((H3.out.1).trans hfo).below.cell (p := ⟨gs, t, none⟩) hgs1
                        rw [World.cell?_of_block (a := ⟨gs, t, none⟩) (hf.block gs (by omega) (by simp; omega)), e1]; exact q0
                      obtain ⟨r0, r1⟩ := vrow_cell hGR1 i' (by omega)
                      have r1' : wr.cell? ⟨gr, i' * 2 + 1, none⟩ = some (.slice (some ⟨GR i', 0, none⟩) n n) := by
                        rw [World.cell?_of_block (a := ⟨gr, i' * 2 + 1, none⟩) (hf.block gr hgr2 (by simpa using hgor))]; exact r1
                      have vv := ((hGR2 i' (by omega)).to hf (by simpa using hGne i' (by omega))).cell t htn
                      have hgv := lt_of ((hGR2 i' (by omega)).to hf (by simpa using hGne i' (by omega)))
                      obtain ⟨gv, hgv'⟩ : ∃ gv, GR i' = gv := ⟨_, rfl⟩
                      rw [hgv'] at r1' vv hgv
                      have o0 := hN.out.cell u hfl
                      have fz := free_of hN.out u
                      obtain ⟨x, hx⟩ : ∃ x, outV R F i' t u = x := ⟨_, rfl⟩
                      obtain ⟨y, hy⟩ : ∃ y, vecP F (R.getD i' d0).2 t = y := ⟨_, rfl⟩
                      obtain ⟨z, hz⟩ : ∃ z, (x + y) % 256 = z := ⟨_, rfl⟩
                      rw [hx] at o0
                      rw [hy] at vv
                      have hxb : (x : Int) ≤ 255 := by have : outV R F i' t u < 256 := Nat.mod_lt _ (by decide); omega
                      have hyb : (y : Int) ≤ 255 := by have := vecP_le F (R.getD i' d0).2 t; omega
                      have ez : ((x : Int) + (y : Int)) % 256 = (z : Int) := by omega
                      have hset := hN.out.set_ (G := outV R F i' (t + 1)) u z (fun s _ => by
                        rw [outV_step R F n i' t htn (fun a b ha hb he => refS_inj HS.out.2 ha hb he) s, hu, hx, hy, hz])
                      have hgsr : gs < wr.heap.size := by have := hf.size; omega
                      have hgrr : gr < wr.heap.size := by have := hf.size; omega
                      have hgolt : w1.heap.size < wr.heap.size := lt_of hN.out
                      have HT := Lib.hid (And.intro hset hf)
                      clear hset hf hN hx hy hz hcc hc0 hfl q0 hu r0 r1 hgv' hR hGR1 hGR2 hGne hout hfo hrl hn2e hKe hjm hroom hgr2 hgor hlt1
                      go_wp2_with fail
                      refine wp_region_quiet_tail 22 (by kernel_rfl) (by kernel_rfl) ?_
                      simp only [List.take_succ_cons, List.take_zero, List.drop_succ_cons, List.drop_zero]
                      repeat go_big_quiet_step (fail)
                      refine wpQuiet_nil ?_
                      go_wp2_with fail
                      exact ⟨⟨t + 1, by go_num, by omega, Lib.hid ((HT.out.1).to (l := []) (Fr.drew (Fr.refl [] _)) (by simp)), HT.out.2.trans (Fr.drew (Fr.setCell _ _ _ _))⟩, by simp [intOf]; omega⟩
                    · have htd : decide (t < n) = false := by simp; omega
                      have hte : t = n := by omega
                      have HT := Lib.hid (And.intro hN.out (And.intro hf hte))
                      clear hN hf hte ht htn
                      go_wp2_with fail
                      go_roundw
                      case rel =>
                        obtain ⟨h1, h2, h3⟩ := HT.out
                        refine ⟨i' + 1, by go_num, by omega, Lib.hid (h1.congr fun s _ => ?_), h2⟩
                        have := outV_done l F n i' j HS.out.2 (by rw [HJ.out.1]; have := HJ.out.2.2.2.2.2.2.1; omega) s
                        rw [HJ.out.1] at this
                        rw [h3]; exact this.symm
                      case measure => simp [intOf]; omega
                · have hid2 : decide (i' < K) = false := by simp; omega
                  have hie2 : i' = K := by omega
                  have HT := Lib.hid (And.intro hN.out (And.intro hf hie2))
                  clear hN hf hie2 hi' hiK
                  go_wp2_with fail
                  go_ret2
                  obtain ⟨h1, h2, h3⟩ := HT.out
                  obtain ⟨hR, hGR1, hGR2, hGne, hout, hfo, hrl, hn2e, hKe, hjm, hroom, hgr2, hgor⟩ := HJ.out
                  have hfw : Fr [] w wo := (Fr.of_below HB.out).trans ((H3.out.1).trans hfo)
                  refine ⟨w1.heap.size, rfl, h1.congr fun s _ => ?_, h2.outL hfw (fun b hb => .inr (by simp at hb; rw [hb]; exact HB.out.size)), HB.out.size⟩
                  have hlt := lens_fits l m (by omega) (by rw [HN.out.1]; exact need_room (by rw [HN.out.2]; omega)) s
                  rw [show ((m : Nat) : Int).toNat = m from Int.toNat_natCast m]
                  have hEq : lenS l m s = sumL R i' s := by
                    unfold lenS lensN lenOf
                    rw [HN.out.1, if_neg (by omega), List.length_map, HN.out.1, show m - 1 = j by omega, hR, h3, ← hKe, ← hn2e]
                    rfl
                  rw [hEq] at hlt ⊢
                  rw [Nat.mod_eq_of_lt (by omega)]
end Go.Proofs.YtciejmlhdmjajaaGreat
namespace Go.Proofs.YtciejmlhdmjajaaGreat
open Go.RowKit
set_option linter.unusedVariables false
set_option linter.unusedSimpArgs false

/-- The document's Lens. -/
theorem refLens_new (a : Option Addr) (c : Nat) (l : List Int) (limit : Int) (w : World) (hs : SlOf (Zn .i64) 1 w a l) (hl : l.length ≤ 9223372036854775807) (hg0 : -9223372036854775808 ≤ limit) (hg1 : limit ≤ 9223372036854775807) :
    Calls Tryz.prog 51 #[.slice a l.length c, .int .i64 limit] w fun e w' => Fr [] w w' ∧ (badP l limit ∧ e = .returned (.tuple #[.slice none 0 0, .int .i64 2]) ∨ ¬ badP l limit ∧ ∃ gl, e = .returned (.tuple #[.slice (some ⟨gl, 0, none⟩) l.length l.length, .int .i64 0]) ∧ Nrow w' gl 5 .u8 l.length (lenS l limit.toNat) ∧ w.heap.size ≤ gl) := by
  by_cases h1 : 320 < l.length ∨ limit < 1 ∨ 15 < limit
  · have hb : badP l limit := by
      rcases h1 with h | h | h
      · exact .inl (.inl h)
      · exact .inr (.inl h)
      · exact .inr (.inr (.inl h))
    exact (refLens_a a c l limit w hl hg0 hg1 h1).mono fun e w' ⟨h2, h3⟩ => ⟨by rw [h3]; exact Fr.refl _ _, .inl ⟨hb, h2⟩⟩
  · by_cases h2 : badC l
    · exact (refLens_b a c l limit w hs (by omega) (by omega) (by omega) h2).mono fun e w' ⟨h3, h4⟩ => ⟨by rw [h4]; exact Fr.refl _ _, .inl ⟨.inl h2, h3⟩⟩
    · by_cases h3 : limit < (needN ((sortC l).length : Int) : Int)
      · exact (refLens_c a c l limit w hs (by omega) h2 (by omega) (by omega) h3).mono fun e w' ⟨h4, h5⟩ => ⟨h5, .inl ⟨.inr (.inr (.inr h3)), h4⟩⟩
      · have hb : ¬ badP l limit := by
          rintro (h | h | h | h)
          · exact h2 h
          · omega
          · omega
          · exact h3 h
        rcases (show (sortC l).length = 0 ∨ (sortC l).length = 1 ∨ 2 ≤ (sortC l).length by omega) with h | h | h
        · exact (refLens_0 a c l limit w hs (by omega) h2 (by omega) (by omega) (by omega) h).mono fun e w' ⟨gl, k1, k2, k3, k4⟩ => ⟨k3, .inr ⟨hb, gl, k1, k2, k4⟩⟩
        · exact (refLens_1 a c l limit w hs (by omega) h2 (by omega) (by omega) (by omega) h).mono fun e w' ⟨gl, k1, k2, k3, k4⟩ => ⟨k3, .inr ⟨hb, gl, k1, k2, k4⟩⟩
        · exact (refLens_n a c l limit w hs (by omega) h2 (by omega) (by omega) (by omega) h).mono fun e w' ⟨gl, k1, k2, k3, k4⟩ => ⟨k3, .inr ⟨hb, gl, k1, k2, k4⟩⟩
theorem refLens_any (a : Option Addr) (c : Nat) (l : List Int) (limit : Int) (w : World) (hs : SlOf (Zn .i64) 1 w a l) (hl : l.length ≤ 9223372036854775807) (hg0 : -9223372036854775808 ≤ limit) (hg1 : limit ≤ 9223372036854775807) :
    Calls Tryz.prog 51 #[.slice a l.length c, .int .i64 limit] w fun e w' => Fr [] w w' ∧ (badP l limit ∧ e = .returned (.tuple #[.slice none 0 0, .int .i64 2]) ∨ ¬ badP l limit ∧ ∃ gl, e = .returned (.tuple #[.slice (some ⟨gl, 0, none⟩) l.length l.length, .int .i64 0]) ∧ Nrow w' gl 5 .u8 l.length (lenS l limit.toNat)) :=
  (refLens_new a c l limit w hs hl hg0 hg1).mono fun e w' ⟨h1, h2⟩ => ⟨h1, h2.imp id fun ⟨k1, gl, k2, k3, _⟩ => ⟨k1, gl, k2, k3⟩⟩
end Go.Proofs.YtciejmlhdmjajaaGreat
namespace Go.Proofs.YtciejmlhdmjajaaGreat
open Go.RowKit
set_option linter.unusedVariables false
set_option linter.unusedSimpArgs false

theorem ref_few2 (g n cp M : Nat) (T : TypeId) (F : Nat → Nat) (w : World) (hN : Nrow w g T .i64 n F) (hn : n ≤ 320) (hF : ∀ i, i < n → F i ≤ 1073741824) (h1 : 1 ≤ M) (h2 : M ≤ 15) (h4 : ∀ k : Nat, k ≤ n → needN (k : Int) ≤ M) :
    Calls Tryz.prog 51 #[.slice (some ⟨g, 0, none⟩) n cp, .int .i64 (M : Int)] w fun e w' => ∃ gl, e = .returned (.tuple #[.slice (some ⟨gl, 0, none⟩) n n, .int .i64 0]) ∧ Nrow w' gl 5 .u8 n (lenS (ctL F n) M) ∧ Fr [] w w' ∧ w.heap.size ≤ gl := by
  have h := refLens_new (some ⟨g, 0, none⟩) cp (ctL F n) (M : Int) w (sl_zrow hN) (by rw [ctL_len]; omega) (by omega) (by omega)
  rw [ctL_len, Int.toNat_natCast] at h
  refine h.mono fun e w' ⟨k1, k2⟩ => ?_
  rcases k2 with ⟨k2, k3⟩ | ⟨k2, gl, k3, k4, k5⟩
  · exfalso
    have h5 := (ctL_bad hn hF h1 h2).1 k2
    have h6 := h4 _ (posN_le F n)
    omega
  · exact ⟨gl, k3, k4, k1, k5⟩
theorem ref_few (g n cp M : Nat) (T : TypeId) (F : Nat → Nat) (w : World) (hN : Nrow w g T .i64 n F) (hn : n ≤ 320) (hF : ∀ i, i < n → F i ≤ 1073741824) (h1 : 1 ≤ M) (h2 : M ≤ 15) (h4 : ∀ k : Nat, k ≤ n → needN (k : Int) ≤ M) :
    Calls Tryz.prog 51 #[.slice (some ⟨g, 0, none⟩) n cp, .int .i64 (M : Int)] w fun e w' => ∃ gl, e = .returned (.tuple #[.slice (some ⟨gl, 0, none⟩) n n, .int .i64 0]) ∧ Nrow w' gl 5 .u8 n (lenS (ctL F n) M) ∧ Fr [] w w' :=
  (ref_few2 g n cp M T F w hN hn hF h1 h2 h4).mono fun e w' ⟨gl, k1, k2, k3, _⟩ => ⟨gl, k1, k2, k3⟩
theorem blk_kind {w : World} {g n : Nat} {F : Nat → Nat} {a b : Value} (h : Nrow w g 5 .u8 n F) (h2 : w.heap[g]? = some (.cells #[a, b] 45 (0, 0))) : False := by
  unfold Nrow at h
  rw [h2] at h
  injection h with h
  injection h with _ h
  exact absurd h (by decide)
def Two286 (w : World) (v5 v6 : Value) (wx : World) : Prop :=
  ∃ g1 g2, v5 = .slice (some ⟨g1, 0, none⟩) 286 286 ∧ v6 = .slice (some ⟨g2, 0, none⟩) 30 30 ∧ g1 ≠ g2 ∧ w.heap.size ≤ g1 ∧ w.heap.size ≤ g2 ∧ Nrow wx g1 3 .i64 286 (fun _ => 0) ∧ Nrow wx g2 3 .i64 30 (fun _ => 0) ∧ Fr [] w wx
theorem two286_made (w : World) (m n : Nat) : Nrow ((w.alloc (.cells (madeCells #[.int .i64 0] m) 3)).alloc (.cells (madeCells #[.int .i64 0] n) 3)).drew w.heap.size 3 .i64 m (fun _ => 0) ∧ Nrow ((w.alloc (.cells (madeCells #[.int .i64 0] m) 3)).alloc (.cells (madeCells #[.int .i64 0] n) 3)).drew (w.heap.size + 1) 3 .i64 n (fun _ => 0) ∧ Fr [] w ((w.alloc (.cells (madeCells #[.int .i64 0] m) 3)).alloc (.cells (madeCells #[.int .i64 0] n) 3)).drew := by
  have h1 := made_nats w m
  have h2 := made_nats (w.alloc (.cells (madeCells #[.int .i64 0] m) 3)) n
  rw [show (w.alloc (.cells (madeCells #[.int .i64 0] m) 3)).heap.size = w.heap.size + 1 from Array.size_push _] at h2
  have hA := Fr.alloc [] (w.alloc (.cells (madeCells #[.int .i64 0] m) 3)) (.cells (madeCells #[.int .i64 0] n) 3)
  exact ⟨(h1.to hA (by simp)).to (Fr.drew (Fr.refl [] _)) (by simp), h2.to (Fr.drew (Fr.refl [] _)) (by simp), ((Fr.alloc [] _ _).trans hA).drew⟩
set_option maxRecDepth 100000 in
set_option maxHeartbeats 6400000 in
theorem refBest_no (a : Option Addr) (c : Nat) (l : List Tok) (w : World) (hs : SlOf Tok.enc Tok.sz w a l) (hl : l.length ≤ 1000000) (hok : ∀ t ∈ l, t.ok) (hmay : l.all Tok.may = false) :
    Calls Tryz.prog 34 #[.slice a l.length c] w fun e w' => e = .returned (.tuple #[.agg #[.slice none 0 0, .slice none 0 0], .int .i64 2]) ∧ Fr [] w w' := by
  have HB := Lib.hid (And.intro hs (And.intro hok hmay))
  have hli : (l.length : Int) ≤ 1000000 := by omega
  clear hs hl hok hmay
  go_enter Tryz.func34, Tryz.ntmps34
  go_wp2_with fail
  go_loopw [4] (fun v4 wr => ∃ k : Nat, k ≤ l.length ∧ v4 = .int .i64 (k : Int) ∧ Hid (∀ t ∈ l.take k, t.may = true) ∧ Fr [] (w.alloc (.cells #[.slice none 0 0, .slice none 0 0] 45)) wr) (fun v4 _ => l.length - (intOf v4).toNat)
  case atStart => exact ⟨0, by omega, rfl, Lib.hid (by simp), Fr.refl _ _⟩
  case round =>
    obtain ⟨k, hk, rfl, hp, hf⟩ := hrel
    by_cases hlt : k < l.length
    · have hki : (k : Int) < (l.length : Int) := by omega
      obtain ⟨m, hm⟩ : ∃ m, l[k]? = some m := ⟨l[k], List.getElem?_eq_getElem hlt⟩
      obtain ⟨b, o, rfl, hbl, hcell⟩ := (HB.out.1.fr0 ((Fr.alloc _ _ _).trans hf)) (by intro h; rw [h] at hlt; simp at hlt)
      have k0 := hcell k m hm 0 (.int .u8 (m.lit : Int)) rfl
      have k1 := hcell k m hm 1 (.int .i64 m.len) rfl
      have k2 := hcell k m hm 2 (.int .i64 m.dist) rfl
      simp only [Nat.add_zero, Tok.sz] at k0 k1 k2
      rw [← Nat.add_assoc] at k1 k2
      have HM := Lib.hid (fun W => refMay_tok m W (HB.out.2.1 m (List.mem_of_getElem? hm)))
      have HT := Lib.hid (show l.take (k + 1) = l.take k ++ [m] by rw [List.take_add_one, hm]; rfl)
      unfold Tok.val at HM
      obtain ⟨y, hy⟩ : ∃ y, m.may = y := ⟨_, rfl⟩
      rw [hy] at HM
      have HY := Lib.hid hy
      have hre := hf.blk (alloc_last w (.cells #[.slice none 0 0, .slice none 0 0] 45)) (by simp)
      have HF := Lib.hid (And.intro hf hre)
      clear hcell hm hf hy hre
      cases y with
      | true =>
        go_wp2_with fail
        refine (HM.out _).mono ?_
        rintro e w1 ⟨rfl, f1⟩
        have F1 := Lib.hid (HF.out.1.trans f1)
        clear f1 k0 k1 k2
        go_wp2_with fail
        go_roundw
        case rel => exact ⟨k + 1, by omega, by go_num, Lib.hid (by rw [HT.out]; intro t ht; rcases List.mem_append.1 ht with h | h; exact hp.out t h; simp at h; rw [h]; exact HY.out), F1.out⟩
        case measure => simp [intOf]; omega
      | false =>
        go_wp2_with fail
        refine (HM.out _).mono ?_
        rintro e w1 ⟨rfl, f1⟩
        have hre := f1.blk HF.out.2 (by simp)
        have cr0 := cell_of hre 0
        have cr1 := cell_of hre 1
        have fr0 := free_of hre 0
        have fr1 := free_of hre 1
        simp at cr0 cr1
        have F1 := Lib.hid (And.intro (HF.out.1.trans f1) hre)
        clear f1 k0 k1 k2 hre
        go_wp2_with fail
        obtain ⟨f1, hre⟩ := F1.out
        have fs1 := Fr.setCell w1 w.heap.size 0 (.slice none 0 0)
        have s1 := set_of hre 0 (.slice none 0 0)
        have fs2 := Fr.setCell (w1.setCell ⟨w.heap.size, 0, none⟩ (.slice none 0 0)) w.heap.size 1 (.slice none 0 0)
        have s2 := set_of s1 1 (.slice none 0 0)
        have e1 : ((#[Value.slice none 0 0, Value.slice none 0 0] : Array Value).setIfInBounds 0 (.slice none 0 0)).setIfInBounds 1 (.slice none 0 0) = #[.slice none 0 0, .slice none 0 0] := by simp
        rw [e1] at s2
        (try simp only [Exit.inBlock, Exit.then])
        refine bodyPost_ret (results_row_tmp rfl _ _ w.heap.size 45 _ (0, 0) _ rfl s2 Tryz.underlying45 rfl (by kernel_rfl)) rfl ?_
        exact ⟨rfl, (fs1.trans fs2).outL ((Fr.alloc _ _ _).trans f1) (by simp)⟩
    · exfalso
      have hke : k = l.length := by omega
      subst hke
      have h1 : l.all Tok.may = true := by rw [List.all_eq_true]; have := hp.out; rw [List.take_of_length_le (Nat.le_refl _)] at this; exact this
      rw [HB.out.2.2] at h1
      cases h1
set_option maxRecDepth 100000 in
set_option maxHeartbeats 6400000 in
theorem refBest_new (a : Option Addr) (c : Nat) (l : List Tok) (w : World) (hs : SlOf Tok.enc Tok.sz w a l) (hl : l.length ≤ 100000) (hok : ∀ t ∈ l, t.ok) (hmay : ∀ t ∈ l, t.may = true) :
    Calls Tryz.prog 34 #[.slice a l.length c] w fun e w' => ∃ g1 g2, e = .returned (.tuple #[.agg #[.slice (some ⟨g1, 0, none⟩) 286 286, .slice (some ⟨g2, 0, none⟩) 30 30], .int .i64 0]) ∧ Nrow w' g1 5 .u8 286 (bestF false 286 (symsL l)) ∧ Nrow w' g2 5 .u8 30 (bestF true 30 (symsL l)) ∧ Fr [] w w' ∧ w.heap.size ≤ g1 ∧ w.heap.size ≤ g2 := by
  have HB := Lib.hid (And.intro hs (And.intro hok (And.intro hmay hl)))
  have hli : (l.length : Int) ≤ 100000 := by omega
  clear hs hl hok hmay
  go_enter Tryz.func34, Tryz.ntmps34
  go_wp2_with fail
  go_loopw [4] (fun v4 wr => ∃ k : Nat, k ≤ l.length ∧ v4 = .int .i64 (k : Int) ∧ Fr [] (w.alloc (.cells #[.slice none 0 0, .slice none 0 0] 45)) wr) (fun v4 _ => l.length - (intOf v4).toNat)
  case atStart => exact ⟨0, by omega, rfl, Fr.refl _ _⟩
  case round =>
    obtain ⟨k, hk, rfl, hf⟩ := hrel
    by_cases hlt : k < l.length
    · have hki : (k : Int) < (l.length : Int) := by omega
      obtain ⟨m, hm⟩ : ∃ m, l[k]? = some m := ⟨l[k], List.getElem?_eq_getElem hlt⟩
      obtain ⟨b, o, rfl, hbl, hcell⟩ := (HB.out.1.fr0 ((Fr.alloc _ _ _).trans hf)) (by intro h; rw [h] at hlt; simp at hlt)
      have k0 := hcell k m hm 0 (.int .u8 (m.lit : Int)) rfl
      have k1 := hcell k m hm 1 (.int .i64 m.len) rfl
      have k2 := hcell k m hm 2 (.int .i64 m.dist) rfl
      simp only [Nat.add_zero, Tok.sz] at k0 k1 k2
      rw [← Nat.add_assoc] at k1 k2
      have HM := Lib.hid (fun W => refMay_tok m W (HB.out.2.1 m (List.mem_of_getElem? hm)))
      have HT := Lib.hid (show l.take (k + 1) = l.take k ++ [m] by rw [List.take_add_one, hm]; rfl)
      unfold Tok.val at HM
      rw [HB.out.2.2.1 m (List.mem_of_getElem? hm)] at HM
      have hre := hf.blk (alloc_last w (.cells #[.slice none 0 0, .slice none 0 0] 45)) (by simp)
      have HF := Lib.hid (And.intro hf hre)
      clear hcell hm hf hre
      go_wp2_with fail
      refine (HM.out _).mono ?_
      rintro e w1 ⟨rfl, f1⟩
      have F1 := Lib.hid (HF.out.1.trans f1)
      clear f1 k0 k1 k2
      go_wp2_with fail
      go_roundw
      case rel => exact ⟨k + 1, by omega, by go_num, F1.out⟩
      case measure => simp [intOf]; omega
    · have hke : k = l.length := by omega
      subst hke
      have hre := hf.blk (alloc_last w (.cells #[.slice none 0 0, .slice none 0 0] 45)) (by simp)
      have HF := Lib.hid (And.intro hf hre)
      clear hf hre hlt hk
      have hmk1 : ∀ W : World, (Instr.makeSlice 81 (.int .i64 286) (.int .i64 286)).run Tryz.prog W = .ok (.slice (some ⟨W.heap.size, 0, none⟩) 286 286) (W.alloc (.cells (madeCells #[.int .i64 0] 286) 3)) := fun W => run_make_nats W 286 (by omega)
      have hmk2 : ∀ W : World, (Instr.makeSlice 81 (.int .i64 30) (.int .i64 30)).run Tryz.prog W = .ok (.slice (some ⟨W.heap.size, 0, none⟩) 30 30) (W.alloc (.cells (madeCells #[.int .i64 0] 30) 3)) := fun W => run_make_nats W 30 (by omega)
      go_upto_region 6 with fail
      go_cut [5, 6] from 26 to 28 (fun v5 v6 wx => Two286 wr v5 v6 wx)
      case first =>
        go_wp2_with fail
        go_region
        all_goals go_wp2_with fail
        all_goals go_meet
        case rel => have h := two286_made wr 286 30; exact ⟨_, _, rfl, rfl, by omega, by omega, by omega, h⟩
        case rel => have h := two286_made wr 30 286; exact ⟨_, _, rfl, rfl, by omega, by omega, by omega, h.2.1, h.1, h.2.2⟩
      case rest =>
      obtain ⟨g1, g2, rfl, rfl, hne, hg1, hg2, hN1, hN2, hfc⟩ := hcut
      have hre := hfc.blk HF.out.2 (by simp)
      have hsz := lt_of HF.out.2
      have HN := Lib.hid (And.intro hN1 (And.intro hN2 (And.intro ((HF.out.1.trans hfc)) (And.intro hne (And.intro (show w.heap.size < g1 by omega) (And.intro (show w.heap.size < g2 by omega) hre))))))
      clear hN1 hN2 hfc hne hg1 hg2 hre hmk1 hmk2 hsz
      go_wp2_with fail
      refine (refSyms_ok a c l _ (HB.out.1.fr0 ((Fr.alloc _ _ _).trans HN.out.2.2.1)) HB.out.2.2.2 HB.out.2.1 HB.out.2.2.1).mono ?_
      rintro e w3 ⟨ay, cs, rfl, hss, f3, hbs⟩
      have hso := symsL_ok HB.out.2.2.1 fun t ht => (HB.out.2.1 t ht).1
      have hsn := symsL_len l
      have hl5 := HB.out.2.2.2
      obtain ⟨L, hLe⟩ : ∃ L, symsL l = L := ⟨_, rfl⟩
      rw [hLe] at hss hso hsn ⊢
      have hLi : (L.length : Int) ≤ 200001 := by omega
      obtain ⟨n1, n2, n3, n4, n5, n6, n7⟩ := HN.out
      have S0 := Lib.hid (And.intro hss (And.intro (n1.to f3 (by simp)) (And.intro (n2.to f3 (by simp)) (And.intro (f3.blk n7 (by simp)) (((Fr.alloc _ _ _).trans n3).trans f3 : Fr [] w w3)))))
      have l1 := lt_of n1
      have l2 := lt_of n2
      have HG := Lib.hid (And.intro hso (And.intro n4 (And.intro n5 (And.intro n6 (show ∀ b, ay = some b → b.block ≠ g1 ∧ b.block ≠ g2 from fun b hb => by have := hbs b hb; omega)))))
      clear n1 n2 n3 n4 n5 n6 n7 l1 l2 hss f3 hbs hso hsn hl5
      go_wp2_with fail
      go_loopw [8] (fun v8 wr => ∃ k : Nat, k ≤ L.length ∧ v8 = .int .i64 (k : Int) ∧ SlOf SyR 4 wr ay L ∧ Nrow wr g1 3 .i64 286 (fun i => cntSy false i (L.take k)) ∧ Nrow wr g2 3 .i64 30 (fun i => cntSy true i (L.take k)) ∧ wr.heap[w.heap.size]? = some (.cells #[.slice none 0 0, .slice none 0 0] 45 (0, 0)) ∧ Fr [] w wr) (fun v8 _ => L.length - (intOf v8).toNat)
      case atStart => exact ⟨0, by omega, rfl, S0.out⟩
      case round =>
        obtain ⟨k, hk, rfl, hss, h1, h2, hre, hfw⟩ := hrel
        by_cases hlt : k < L.length
        · have hki : (k : Int) < (L.length : Int) := by omega
          obtain ⟨s, hsk⟩ : ∃ s, L[k]? = some s := ⟨L[k], List.getElem?_eq_getElem hlt⟩
          have hsok := HG.out.1 s (List.mem_of_getElem? hsk)
          obtain ⟨b, o, hab, hbl, hcell⟩ := hss (by intro h; rw [h] at hlt; simp at hlt)
          have hbg := HG.out.2.2.2.2 _ hab
          have HT : ∀ d i, cntSy d i (L.take (k + 1)) = cntSy d i (L.take k) + if s.dist = d ∧ s.n = i then 1 else 0 := fun d i => by
            rw [List.take_add_one, hsk, cntSy_append]
            rfl
          obtain ⟨sd, sn, se, sb⟩ := s
          have k0 := hcell k _ hsk 0 (.bool sd) rfl
          have k1 := hcell k _ hsk 1 (.int .i64 (sn : Int)) rfl
          simp only [Nat.add_zero] at k0
          rw [← Nat.add_assoc] at k1
          subst hab
          have HW := Lib.hid (And.intro hss (And.intro h1 (And.intro h2 (And.intro hre hfw))))
          have hpl : (L.take k).length ≤ 200001 := by rw [List.length_take]; omega
          cases sd
          · have hsn : sn < 286 := by have := hsok.1; simpa using this
            have hsni : (sn : Int) < 286 := by omega
            have c1 := h1.cell sn hsn
            have c2 := free_of h1 sn
            have hT := cntSy_le false sn (L.take k)
            obtain ⟨T, hT2⟩ : ∃ T, cntSy false sn (L.take k) = T := ⟨_, rfl⟩
            have HE := Lib.hid (show (∀ i, cntSy false i (L.take (k + 1)) = if i = sn then T + 1 else cntSy false i (L.take k)) ∧ ∀ i, cntSy true i (L.take (k + 1)) = cntSy true i (L.take k) by
              refine ⟨fun i => ?_, fun i => ?_⟩
              · rw [HT]
                by_cases h : i = sn
                · subst h; simp [hT2]
                · have h' : ¬ sn = i := fun e => h e.symm
                  simp [h, h']
              · rw [HT]; simp)
            rw [hT2] at hT c1
            have hTi : (T : Int) ≤ 200001 := by omega
            clear hcell hsk hsok hbg HT hss h1 h2 hre hfw hpl hT hT2 hsn
            go_wp2_with fail
            obtain ⟨hss, h1, h2, hre, hfw⟩ := HW.out
            obtain ⟨_, q1, q2, q3, q4⟩ := HG.out
            have hbg := q4 _ rfl
            have fs := Fr.setCell wr g1 sn (.int .i64 ((T : Int) + 1))
            have s1 := h1.set_ (G := fun i => cntSy false i (L.take (k + 1))) sn (T + 1) (fun j hj => HE.out.1 j)
            refine ⟨⟨k + 1, by omega, by go_num, hss.fr fs (fun x hx hm => by cases hx; simp at hm; simp only at hbg; omega), by simpa using s1, (h2.to fs (by simp; omega)).congr fun j hj => HE.out.2 j, fs.blk hre (by simp; omega), fs.outL hfw (by simp; omega)⟩, by simp [intOf]; omega⟩
          · have hsn : sn < 30 := by have := hsok.1; simpa using this
            have hsni : (sn : Int) < 30 := by omega
            have c1 := h2.cell sn hsn
            have c2 := free_of h2 sn
            have hT := cntSy_le true sn (L.take k)
            obtain ⟨T, hT2⟩ : ∃ T, cntSy true sn (L.take k) = T := ⟨_, rfl⟩
            have HE := Lib.hid (show (∀ i, cntSy true i (L.take (k + 1)) = if i = sn then T + 1 else cntSy true i (L.take k)) ∧ ∀ i, cntSy false i (L.take (k + 1)) = cntSy false i (L.take k) by
              refine ⟨fun i => ?_, fun i => ?_⟩
              · rw [HT]
                by_cases h : i = sn
                · subst h; simp [hT2]
                · have h' : ¬ sn = i := fun e => h e.symm
                  simp [h, h']
              · rw [HT]; simp)
            rw [hT2] at hT c1
            have hTi : (T : Int) ≤ 200001 := by omega
            clear hcell hsk hsok hbg HT hss h1 h2 hre hfw hpl hT hT2 hsn
            go_wp2_with fail
            obtain ⟨hss, h1, h2, hre, hfw⟩ := HW.out
            obtain ⟨_, q1, q2, q3, q4⟩ := HG.out
            have hbg := q4 _ rfl
            have fs := Fr.setCell wr g2 sn (.int .i64 ((T : Int) + 1))
            have s1 := h2.set_ (G := fun i => cntSy true i (L.take (k + 1))) sn (T + 1) (fun j hj => HE.out.1 j)
            refine ⟨⟨k + 1, by omega, by go_num, hss.fr fs (fun x hx hm => by cases hx; simp at hm; simp only at hbg; omega), (h1.to fs (by simp; omega)).congr fun j hj => HE.out.2 j, by simpa using s1, fs.blk hre (by simp; omega), fs.outL hfw (by simp; omega)⟩, by simp [intOf]; omega⟩
        · have hke : k = L.length := by omega
          subst hke
          have hle : L.take L.length = L := List.take_of_length_le (Nat.le_refl _)
          rw [hle] at h1 h2
          have hcl : ∀ d, (i : Nat) → cntSy d i L ≤ 1073741824 := fun d i => by have := cntSy_le d i L; omega
          have HX := Lib.hid (And.intro h1 (And.intro h2 (And.intro hre hfw)))
          clear hss h1 h2 hre hfw hle hlt hk
          go_wp2_with fail
          refine (ref_few2 g1 286 286 15 3 _ _ HX.out.1 (by omega) (fun i _ => hcl false i) (by omega) (by omega) (fun k hk => by have := needN_small k (by omega); omega)).mono ?_
          rintro e w5 ⟨ga, rfl, ra, f5, hgaz⟩
          have F5 := Lib.hid (And.intro ra f5)
          clear ra f5
          go_wp2_with fail
          refine (ref_few2 g2 30 30 15 3 _ _ (HX.out.2.1.to F5.out.2 (by simp)) (by omega) (fun i _ => hcl true i) (by omega) (by omega) (fun k hk => by have := needN_small k (by omega); omega)).mono ?_
          rintro e w6 ⟨gb, rfl, rb, f6, hgbz⟩
          have hre := f6.blk (F5.out.2.blk HX.out.2.2.1 (by simp)) (by simp)
          have cr0 := cell_of hre 0
          have cr1 := cell_of hre 1
          have fr0 := free_of hre 0
          have fr1 := free_of hre 1
          simp at cr0 cr1
          have F6 := Lib.hid (And.intro (F5.out.1.to f6 (by simp)) (And.intro rb (And.intro ((HX.out.2.2.2.trans F5.out.2).trans f6) hre)))
          clear rb f6 hre
          go_wp2_with fail
          obtain ⟨ra, rb, f6, hre⟩ := F6.out
          have hlt6 := lt_of hre
          have fs1 := Fr.setCell w6 w.heap.size 0 (.slice (some ⟨ga, 0, none⟩) 286 286)
          have s1 := set_of hre 0 (.slice (some ⟨ga, 0, none⟩) 286 286)
          have fs2 := Fr.setCell (w6.setCell ⟨w.heap.size, 0, none⟩ (.slice (some ⟨ga, 0, none⟩) 286 286)) w.heap.size 1 (.slice (some ⟨gb, 0, none⟩) 30 30)
          have s2 := set_of s1 1 (.slice (some ⟨gb, 0, none⟩) 30 30)
          have e1 : ((#[Value.slice none 0 0, Value.slice none 0 0] : Array Value).setIfInBounds 0 (.slice (some ⟨ga, 0, none⟩) 286 286)).setIfInBounds 1 (.slice (some ⟨gb, 0, none⟩) 30 30) = #[.slice (some ⟨ga, 0, none⟩) 286 286, .slice (some ⟨gb, 0, none⟩) 30 30] := by simp
          rw [e1] at s2
          (try simp only [Exit.inBlock, Exit.then])
          refine bodyPost_ret (results_row_tmp rfl _ _ w.heap.size 45 _ (0, 0) _ rfl s2 Tryz.underlying45 rfl (by kernel_rfl)) rfl ?_
          have hga : ga ≠ w.heap.size := fun h => by subst h; exact blk_kind ra hre
          have hgb : gb ≠ w.heap.size := fun h => by subst h; exact blk_kind rb hre
          subst hLe
          exact ⟨ga, gb, rfl, (ra.to fs1 (by simp; omega)).to fs2 (by simp; omega), (rb.to fs1 (by simp; omega)).to fs2 (by simp; omega), (fs1.trans fs2).outL f6 (by simp), by have := HX.out.2.2.2.size; omega, by have := HX.out.2.2.2.size; have := F5.out.2.size; omega⟩
theorem refBest_ok (a : Option Addr) (c : Nat) (l : List Tok) (w : World) (hs : SlOf Tok.enc Tok.sz w a l) (hl : l.length ≤ 100000) (hok : ∀ t ∈ l, t.ok) (hmay : ∀ t ∈ l, t.may = true) :
    Calls Tryz.prog 34 #[.slice a l.length c] w fun e w' => ∃ g1 g2, e = .returned (.tuple #[.agg #[.slice (some ⟨g1, 0, none⟩) 286 286, .slice (some ⟨g2, 0, none⟩) 30 30], .int .i64 0]) ∧ Nrow w' g1 5 .u8 286 (bestF false 286 (symsL l)) ∧ Nrow w' g2 5 .u8 30 (bestF true 30 (symsL l)) ∧ Fr [] w w' :=
  (refBest_new a c l w hs hl hok hmay).mono fun e w' ⟨g1, g2, k1, k2, k3, k4, _⟩ => ⟨g1, g2, k1, k2, k3, k4⟩
end Go.Proofs.YtciejmlhdmjajaaGreat

