/- Lengths of counts that are all so many times as great; of counts among which one is put that does not count. PackMore: its walk. -/
import Derived.Test.YtciejmlhdmjajaaKPl
import Derived.BigRegion
namespace Go.Proofs.Ytciejmlhdmjajaa
open Go.RowKit
set_option linter.unusedVariables false
set_option linter.unusedSimpArgs false

section
variable {α β : Type} (f : α → β) (g : Nat → Nat)
def two (x : Nat × α) : Nat × β := (g x.1, f x.2)
theorem mrg_map (hg : ∀ a b, g a ≤ g b ↔ a ≤ b) (A B : List (Nat × α)) : (mrg A B).map (two f g) = mrg (A.map (two f g)) (B.map (two f g)) := by
  unfold mrg
  refine List.map_merge fun a _ b _ => ?_
  unfold leP two
  simp only [hg]
theorem prs_map2 (node : α → α → α) (node' : β → β → β) (hf : ∀ a b, f (node a b) = node' (f a) (f b)) (ha : ∀ a b, g (a + b) = g a + g b) : ∀ R : List (Nat × α), (prs node R).map (two f g) = prs node' (R.map (two f g))
  | [] => rfl
  | [x] => rfl
  | x :: y :: r => by
    rw [prs, List.map_cons, List.map_cons, List.map_cons, prs, prs_map2 node node' hf ha r]
    simp only [two, ha, hf]
theorem lev_map (node : α → α → α) (node' : β → β → β) (hf : ∀ a b, f (node a b) = node' (f a) (f b)) (ha : ∀ a b, g (a + b) = g a + g b) (hg : ∀ a b, g a ≤ g b ↔ a ≤ b) (L : List (Nat × α)) : ∀ j, (lev node L j).map (two f g) = lev node' (L.map (two f g)) j
  | 0 => rfl
  | j + 1 => by rw [lev, mrg_map f g hg, prs_map2 f g node node' hf ha, lev_map node node' hf ha hg L j, lev]
end
/-- Counts that are all m times as great. -/
theorem cntL_times (m : Nat) (hm : 1 ≤ m) : ∀ (xs : List Int) (s : Nat), (∀ x ∈ xs, 0 ≤ x) → cntL s (xs.map fun x => (m : Int) * x) = (cntL s xs).map fun p => (m * p.1, p.2)
  | [], s, _ => rfl
  | c :: xs, s, h => by
    have ih := cntL_times m hm xs (s + 1) fun x hx => h x (by simp [hx])
    have hc := h c (by simp)
    rw [List.map_cons, cntL, cntL, ih]
    by_cases h0 : 0 < c
    · rw [if_pos (Int.mul_pos (by omega) h0), if_pos h0, List.map_cons]
      congr 2
      obtain ⟨d, rfl⟩ := Int.eq_ofNat_of_zero_le hc
      rw [Int.toNat_natCast, ← Int.natCast_mul, Int.toNat_natCast]
    · have : c = 0 := by omega
      subst this
      rw [if_neg (by simp), if_neg (by omega)]
theorem sortC_map {l l' : List Int} (f : Nat × Nat → Nat × Nat) (h : cntL 0 l' = (cntL 0 l).map f) (hf : ∀ a b, lexB a b = true → lexB (f a) (f b) = true) : sortC l' = (sortC l).map f := by
  refine (sortC_of ?_ ?_).symm
  · rw [h]; exact (sortC_perm l).map f
  · rw [List.pairwise_map]; exact (sortC_lex l).imp fun {a b} hab => hf a b hab
theorem lens_times (l : List Int) (m M s : Nat) (hm : 1 ≤ m) (h : ∀ x ∈ l, 0 ≤ x) : lenS (l.map fun x => (m : Int) * x) M s = lenS l M s := by
  have hS : sortC (l.map fun x => (m : Int) * x) = (sortC l).map fun p => (m * p.1, p.2) := sortC_map _ (cntL_times m hm l 0 h) fun a b hab => by
    unfold lexB at hab ⊢
    simp only [decide_eq_true_eq] at hab ⊢
    rcases hab with h1 | ⟨h1, h2⟩
    · exact .inl (Nat.mul_lt_mul_of_pos_left h1 (by omega))
    · exact .inr ⟨by rw [h1], h2⟩
  unfold lenS
  rw [hS, List.length_map]
  by_cases h2 : (sortC l).length < 2
  · rw [if_pos h2, if_pos h2, tot_map]
  · rw [if_neg h2, if_neg h2]
    unfold lensN lenOf
    rw [hS]
    have e : ((sortC l).map fun p => (m * p.1, p.2)).map leafP = ((sortC l).map leafP).map (two id (m * ·)) := by rw [List.map_map, List.map_map]; rfl
    rw [e, ← lev_map id (m * ·) PT.node PT.node (fun _ _ => rfl) (fun a b => Nat.mul_add _ _ _) (fun a b => ⟨fun h => Nat.le_of_mul_le_mul_left h (by omega), fun h => Nat.mul_le_mul_left _ h⟩), ← List.map_take, tot_map, List.length_map]
    rfl
theorem times_ctL (F : Nat → Nat) (n m : Nat) : ctL (fun i => m * F i) n = (ctL F n).map fun x => (m : Int) * x := by
  unfold ctL
  rw [List.map_map]
  exact List.map_congr_left fun i _ => by simp

/-- The symbols, where one is put at k. -/
def sh (k s : Nat) : Nat := if s < k then s else s + 1
theorem sh_inj {k a b : Nat} : sh k a = sh k b ↔ a = b := by unfold sh; split <;> split <;> omega
theorem sh_lt {k a b : Nat} (h : a < b) : sh k a < sh k b := by unfold sh; split <;> split <;> omega
theorem cntL_append : ∀ (a b : List Int) (s : Nat), cntL s (a ++ b) = cntL s a ++ cntL (s + a.length) b
  | [], b, s => by simp [cntL]
  | c :: a, b, s => by
    have ih := cntL_append a b (s + 1)
    rw [List.cons_append, cntL, cntL, ih, List.length_cons, show s + 1 + a.length = s + (a.length + 1) by omega]
    by_cases h : 0 < c
    · rw [if_pos h, if_pos h, List.cons_append]
    · rw [if_neg h, if_neg h]
theorem cntL_next : ∀ (xs : List Int) (s : Nat), cntL (s + 1) xs = (cntL s xs).map fun p => (p.1, p.2 + 1)
  | [], s => rfl
  | c :: xs, s => by
    rw [cntL, cntL, cntL_next xs (s + 1)]
    by_cases h : 0 < c
    · rw [if_pos h, if_pos h, List.map_cons]
    · rw [if_neg h, if_neg h]
theorem cntL_put (l : List Int) (k : Nat) (hk : k ≤ l.length) : cntL 0 (l.take k ++ 0 :: l.drop k) = (cntL 0 l).map fun p => (p.1, sh k p.2) := by
  conv => rhs; rw [← List.take_append_drop k l]
  rw [cntL_append, cntL_append, List.map_append, Nat.zero_add, List.length_take, Nat.min_eq_left hk]
  congr 1
  · have : ∀ p ∈ cntL 0 (l.take k), (p.1, sh k p.2) = p := fun p hp => by
      obtain ⟨i, c, hi, _, rfl⟩ := (cntL_mem _ _ _).1 hp
      have := (List.getElem?_eq_some_iff.1 hi).1
      rw [List.length_take] at this
      unfold sh
      simp only
      rw [if_pos (by omega)]
    rw [List.map_congr_left this]; simp
  · rw [cntL, if_neg (by decide), cntL_next]
    refine List.map_congr_left fun p hp => ?_
    obtain ⟨i, c, hi, _, rfl⟩ := (cntL_mem _ _ _).1 hp
    unfold sh
    simp only
    rw [if_neg (by omega)]
def mapP (f : Nat → Nat) : PT → PT
  | .leaf s => .leaf (f s)
  | .node a b => .node (mapP f a) (mapP f b)
theorem occ_mapP (k : Nat) (s : Nat) : ∀ p : PT, occ (mapP (sh k) p) (sh k s) = occ p s
  | .leaf t => by simp only [mapP, occ, sh_inj]
  | .node a b => by simp only [mapP, occ, occ_mapP k s a, occ_mapP k s b]
theorem sortC_put (l : List Int) (k : Nat) (hk : k ≤ l.length) : sortC (l.take k ++ 0 :: l.drop k) = (sortC l).map fun p => (p.1, sh k p.2) :=
  sortC_map _ (cntL_put l k hk) fun a b hab => by
    unfold lexB at hab ⊢
    simp only [decide_eq_true_eq] at hab ⊢
    rcases hab with h1 | ⟨h1, h2⟩
    · exact .inl h1
    · refine .inr ⟨h1, ?_⟩
      rcases Nat.lt_or_eq_of_le h2 with h3 | h3
      · exact Nat.le_of_lt (sh_lt h3)
      · rw [h3]; exact Nat.le_refl _
theorem lens_put (l : List Int) (k M s : Nat) (hk : k ≤ l.length) : lenS (l.take k ++ 0 :: l.drop k) M (sh k s) = lenS l M s := by
  have hS := sortC_put l k hk
  unfold lenS
  rw [hS, List.length_map]
  by_cases h2 : (sortC l).length < 2
  · rw [if_pos h2, if_pos h2, tot_map]
    exact tot_congr _ _ _ fun p _ => by simp only [sh_inj]
  · rw [if_neg h2, if_neg h2]
    unfold lensN lenOf
    rw [hS]
    have e : ((sortC l).map fun p => (p.1, sh k p.2)).map leafP = ((sortC l).map leafP).map (two (mapP (sh k)) id) := by rw [List.map_map, List.map_map]; rfl
    rw [e, ← lev_map (mapP (sh k)) id PT.node PT.node (fun _ _ => rfl) (fun a b => rfl) (fun a b => Iff.rfl), ← List.map_take, tot_map, List.length_map]
    exact tot_congr _ _ _ fun x _ => occ_mapP k s x.2
theorem lens_put_k (l : List Int) (k M : Nat) (hk : k ≤ l.length) (h1 : 1 ≤ M) (hr : (sortC l).length ≤ 2 ^ M) : lenS (l.take k ++ 0 :: l.drop k) M k = 0 := by
  have hS := sortC_put l k hk
  rcases Nat.eq_zero_or_pos (lenS (l.take k ++ 0 :: l.drop k) M k) with h | h
  · exact h
  · obtain ⟨c, hc, h0⟩ := (lens_pos _ M h1 (by rw [hS, List.length_map]; exact hr) k).1 h
    rw [List.getElem?_append_right (by rw [List.length_take]; omega), List.length_take, Nat.min_eq_left hk, Nat.sub_self] at hc
    simp at hc
    omega
end Go.Proofs.Ytciejmlhdmjajaa
namespace Go.Proofs.Ytciejmlhdmjajaa
open Go.RowKit
set_option linter.unusedVariables false
set_option linter.unusedSimpArgs false

theorem nrow_put {w : World} {g n j y : Nat} {F : Nat → Nat} (h : Nrow w g 3 .i64 n (fun s => if s < j then F s else 0)) (hF : F j = y) : Nrow (w.setCell ⟨g, j, none⟩ (.int .i64 (y : Int))) g 3 .i64 n (fun s => if s < j + 1 then F s else 0) :=
  h.set_ j y fun s _ => by
    by_cases e : s = j
    · subst e; simp [hF]
    · simp only [if_neg e]
      by_cases h2 : s < j
      · rw [if_pos h2, if_pos (by omega)]
      · rw [if_neg h2, if_neg (by omega)]
/-- Two rows of noughts, new. -/
def TwoMade (w : World) (n : Nat) (v9 v10 : Value) (wx : World) : Prop :=
  ∃ g9 g10, v9 = .slice (some ⟨g9, 0, none⟩) n n ∧ v10 = .slice (some ⟨g10, 0, none⟩) n n ∧ g9 ≠ g10 ∧ w.heap.size ≤ g9 ∧ w.heap.size ≤ g10 ∧ Nrow wx g9 3 .i64 n (fun _ => 0) ∧ Nrow wx g10 3 .i64 n (fun _ => 0) ∧ Fr [] w wx
theorem twoMade_a (w : World) (n : Nat) : TwoMade w n (.slice (some ⟨w.heap.size, 0, none⟩) n n) (.slice (some ⟨w.heap.size + 1, 0, none⟩) n n) ((w.alloc (.cells (madeCells #[.int .i64 0] n) 3)).alloc (.cells (madeCells #[.int .i64 0] n) 3)).drew := by
  have h1 := made_nats w n
  have h2 := made_nats (w.alloc (.cells (madeCells #[.int .i64 0] n) 3)) n
  rw [show (w.alloc (.cells (madeCells #[.int .i64 0] n) 3)).heap.size = w.heap.size + 1 from Array.size_push _] at h2
  have hA := Fr.alloc [] (w.alloc (.cells (madeCells #[.int .i64 0] n) 3)) (.cells (madeCells #[.int .i64 0] n) 3)
  exact ⟨_, _, rfl, rfl, by omega, by omega, by omega, (h1.to hA (by simp)).to (Fr.drew (Fr.refl [] _)) (by simp), h2.to (Fr.drew (Fr.refl [] _)) (by simp), ((Fr.alloc [] _ _).trans hA).drew⟩
theorem twoMade_b {w : World} {n : Nat} {v9 v10 : Value} {wx : World} (h : TwoMade w n v9 v10 wx) : TwoMade w n v10 v9 wx := by
  obtain ⟨g9, g10, h1, h2, h3, h4, h5, h6, h7, h8⟩ := h
  exact ⟨g10, g9, h2, h1, Ne.symm h3, h5, h4, h7, h6, h8⟩
theorem posN_times (F : Nat → Nat) (m : Nat) (hm : 1 ≤ m) : ∀ j, posN (fun s => m * F s) j = posN F j
  | 0 => rfl
  | j + 1 => by
    simp only [posN, posN_times F m hm j]
    by_cases h : 0 < F j
    · rw [if_pos h, if_pos (Nat.mul_pos (by omega) h)]
    · rw [if_neg h, if_neg (by rw [show F j = 0 by omega]; simp)]
theorem lens_row_list {w : World} {g n M : Nat} {F : Nat → Nat} (h : Nrow w g 5 .u8 n (lenS (ctL F n) M)) : SlOf U8 1 w (some ⟨g, 0, none⟩) (lensL (ctL F n) M) := nrow_list h (by unfold lensL; rw [ctL_len])
theorem lensL_len (F : Nat → Nat) (n M : Nat) : (lensL (ctL F n) M).length = n := by unfold lensL; rw [List.length_map, List.length_range, ctL_len]
theorem lensL_mem {F : Nat → Nat} {n M : Nat} (h1 : 1 ≤ M) (h15 : M ≤ 15) (hr : (sortC (ctL F n)).length ≤ 2 ^ M) : ∀ x ∈ lensL (ctL F n) M, x < 256 := fun z hz => by
  obtain ⟨s, _, rfl⟩ := List.mem_map.1 hz
  have := lens_fits (ctL F n) M h1 hr s
  omega
theorem room_of {F : Nat → Nat} {n M : Nat} (h : needN (posN F n : Int) ≤ M) : (sortC (ctL F n)).length ≤ 2 ^ M := by
  rw [← posN_sort]; exact need_room h
/-- What holds at the head of a round of the loop that fills both rows. -/
def FillT (w : World) (g9 g10 n m : Nat) (F : Nat → Nat) (v11 : Value) (wr : World) : Prop :=
  ∃ j : Nat, v11 = .int .i64 (j : Int) ∧ j ≤ n ∧ Nrow wr g9 3 .i64 n (fun s => if s < j then F s else 0) ∧ Nrow wr g10 3 .i64 n (fun s => if s < j then m * F s else 0) ∧ Fr [] w wr
end Go.Proofs.Ytciejmlhdmjajaa

