/- Lengths of counts that are all so many times as great; of counts among which one is put that does not count. PackMore: its walk. The least weight of whole lengths, by trying all of them: what platenref06's Best finds is what package-merge finds. Best's answer is the weight of package-merge's lengths. PackNone: its walk. platenref06's Best: its walk. PackBest: its walk. platenref06's Needs and symbols. platenref06's symbols: those that count, by rising counts. platenref06's symbols: its walk. platenref06's leaf and both. platenref06's next: the row of the next level. platenref06's next: its walk. platenref06's Lens: where there is none, and of few symbols. -/
import Derived.Test.YtciejmlhdmjajaaGreatKPd
import Derived.Test.YtciejmlhdmjajaaGreatKPl
import Derived.BigRegion
import Derived.Deep.RegionHeld3
import Derived.Deep.AppendLies
namespace Go.Proofs.YtciejmlhdmjajaaGreat
open Go.RowKit
set_option linter.unusedVariables false
set_option linter.unusedSimpArgs false

section
variable {α β : Type} (f : α → β) (g : Nat → Nat)
def two (x : Nat × α) : Nat × β := (g x.1, f x.2)
theorem mrg_map (hg : ∀ a b, g a ≤ g b ↔ a ≤ b) (A B : List (Nat × α)) : (mrg A B).map (two f g) = mrg (A.map (two f g)) (B.map (two f g)) := by
  unfold mrg
  refine List.map_merge fun a _ b _ => ?_
  unfold leP two
  simp only [hg]
theorem prs_map2 (node : α → α → α) (node' : β → β → β) (hf : ∀ a b, f (node a b) = node' (f a) (f b)) (ha : ∀ a b, g (a + b) = g a + g b) : ∀ R : List (Nat × α), (prs node R).map (two f g) = prs node' (R.map (two f g))
  | [] => rfl
  | [x] => rfl
  | x :: y :: r => by
    rw [prs, List.map_cons, List.map_cons, List.map_cons, prs, prs_map2 node node' hf ha r]
    simp only [two, ha, hf]
theorem lev_map (node : α → α → α) (node' : β → β → β) (hf : ∀ a b, f (node a b) = node' (f a) (f b)) (ha : ∀ a b, g (a + b) = g a + g b) (hg : ∀ a b, g a ≤ g b ↔ a ≤ b) (L : List (Nat × α)) : ∀ j, (lev node L j).map (two f g) = lev node' (L.map (two f g)) j
  | 0 => rfl
  | j + 1 => by rw [lev, mrg_map f g hg, prs_map2 f g node node' hf ha, lev_map node node' hf ha hg L j, lev]
end
/-- Counts that are all m times as great. -/
theorem cntL_times (m : Nat) (hm : 1 ≤ m) : ∀ (xs : List Int) (s : Nat), (∀ x ∈ xs, 0 ≤ x) → cntL s (xs.map fun x => (m : Int) * x) = (cntL s xs).map fun p => (m * p.1, p.2)
  | [], s, _ => rfl
  | c :: xs, s, h => by
    have ih := cntL_times m hm xs (s + 1) fun x hx => h x (by simp [hx])
    have hc := h c (by simp)
    rw [List.map_cons, cntL, cntL, ih]
    by_cases h0 : 0 < c
    · rw [if_pos (Int.mul_pos (by omega) h0), if_pos h0, List.map_cons]
      congr 2
      obtain ⟨d, rfl⟩ := Int.eq_ofNat_of_zero_le hc
      rw [Int.toNat_natCast, ← Int.natCast_mul, Int.toNat_natCast]
    · have : c = 0 := by omega
      subst this
      rw [if_neg (by simp), if_neg (by omega)]
theorem sortC_map {l l' : List Int} (f : Nat × Nat → Nat × Nat) (h : cntL 0 l' = (cntL 0 l).map f) (hf : ∀ a b, lexB a b = true → lexB (f a) (f b) = true) : sortC l' = (sortC l).map f := by
  refine (sortC_of ?_ ?_).symm
  · rw [h]; exact (sortC_perm l).map f
  · rw [List.pairwise_map]; exact (sortC_lex l).imp fun {a b} hab => hf a b hab
theorem lens_times (l : List Int) (m M s : Nat) (hm : 1 ≤ m) (h : ∀ x ∈ l, 0 ≤ x) : lenS (l.map fun x => (m : Int) * x) M s = lenS l M s := by
  have hS : sortC (l.map fun x => (m : Int) * x) = (sortC l).map fun p => (m * p.1, p.2) := sortC_map _ (cntL_times m hm l 0 h) fun a b hab => by
    unfold lexB at hab ⊢
    simp only [decide_eq_true_eq] at hab ⊢
    rcases hab with h1 | ⟨h1, h2⟩
    · exact .inl (Nat.mul_lt_mul_of_pos_left h1 (by omega))
    · exact .inr ⟨by rw [h1], h2⟩
  unfold lenS
  rw [hS, List.length_map]
  by_cases h2 : (sortC l).length < 2
  · rw [if_pos h2, if_pos h2, tot_map]
  · rw [if_neg h2, if_neg h2]
    unfold lensN lenOf
    rw [hS]
    have e : ((sortC l).map fun p => (m * p.1, p.2)).map leafP = ((sortC l).map leafP).map (two id (m * ·)) := by rw [List.map_map, List.map_map]; rfl
    rw [e, ← lev_map id (m * ·) PT.node PT.node (fun _ _ => rfl) (fun a b => Nat.mul_add _ _ _) (fun a b => ⟨fun h => Nat.le_of_mul_le_mul_left h (by omega), fun h => Nat.mul_le_mul_left _ h⟩), ← List.map_take, tot_map, List.length_map]
    rfl
theorem times_ctL (F : Nat → Nat) (n m : Nat) : ctL (fun i => m * F i) n = (ctL F n).map fun x => (m : Int) * x := by
  unfold ctL
  rw [List.map_map]
  exact List.map_congr_left fun i _ => by simp

/-- The symbols, where one is put at k. -/
def sh (k s : Nat) : Nat := if s < k then s else s + 1
theorem sh_inj {k a b : Nat} : sh k a = sh k b ↔ a = b := by unfold sh; split <;> split <;> omega
theorem sh_lt {k a b : Nat} (h : a < b) : sh k a < sh k b := by unfold sh; split <;> split <;> omega
theorem cntL_append : ∀ (a b : List Int) (s : Nat), cntL s (a ++ b) = cntL s a ++ cntL (s + a.length) b
  | [], b, s => by simp [cntL]
  | c :: a, b, s => by
    have ih := cntL_append a b (s + 1)
    rw [List.cons_append, cntL, cntL, ih, List.length_cons, show s + 1 + a.length = s + (a.length + 1) by omega]
    by_cases h : 0 < c
    · rw [if_pos h, if_pos h, List.cons_append]
    · rw [if_neg h, if_neg h]
theorem cntL_next : ∀ (xs : List Int) (s : Nat), cntL (s + 1) xs = (cntL s xs).map fun p => (p.1, p.2 + 1)
  | [], s => rfl
  | c :: xs, s => by
    rw [cntL, cntL, cntL_next xs (s + 1)]
    by_cases h : 0 < c
    · rw [if_pos h, if_pos h, List.map_cons]
    · rw [if_neg h, if_neg h]
theorem cntL_put (l : List Int) (k : Nat) (hk : k ≤ l.length) : cntL 0 (l.take k ++ 0 :: l.drop k) = (cntL 0 l).map fun p => (p.1, sh k p.2) := by
  conv => rhs; rw [← List.take_append_drop k l]
  rw [cntL_append, cntL_append, List.map_append, Nat.zero_add, List.length_take, Nat.min_eq_left hk]
  congr 1
  · have : ∀ p ∈ cntL 0 (l.take k), (p.1, sh k p.2) = p := fun p hp => by
      obtain ⟨i, c, hi, _, rfl⟩ := (cntL_mem _ _ _).1 hp
      have := (List.getElem?_eq_some_iff.1 hi).1
      rw [List.length_take] at this
      unfold sh
      simp only
      rw [if_pos (by omega)]
    rw [List.map_congr_left this]; simp
  · rw [cntL, if_neg (by decide), cntL_next]
    refine List.map_congr_left fun p hp => ?_
    obtain ⟨i, c, hi, _, rfl⟩ := (cntL_mem _ _ _).1 hp
    unfold sh
    simp only
    rw [if_neg (by omega)]
def mapP (f : Nat → Nat) : PT → PT
  | .leaf s => .leaf (f s)
  | .node a b => .node (mapP f a) (mapP f b)
theorem occ_mapP (k : Nat) (s : Nat) : ∀ p : PT, occ (mapP (sh k) p) (sh k s) = occ p s
  | .leaf t => by simp only [mapP, occ, sh_inj]
  | .node a b => by simp only [mapP, occ, occ_mapP k s a, occ_mapP k s b]
theorem sortC_put (l : List Int) (k : Nat) (hk : k ≤ l.length) : sortC (l.take k ++ 0 :: l.drop k) = (sortC l).map fun p => (p.1, sh k p.2) :=
  sortC_map _ (cntL_put l k hk) fun a b hab => by
    unfold lexB at hab ⊢
    simp only [decide_eq_true_eq] at hab ⊢
    rcases hab with h1 | ⟨h1, h2⟩
    · exact .inl h1
    · refine .inr ⟨h1, ?_⟩
      rcases Nat.lt_or_eq_of_le h2 with h3 | h3
      · exact Nat.le_of_lt (sh_lt h3)
      · rw [h3]; exact Nat.le_refl _
theorem lens_put (l : List Int) (k M s : Nat) (hk : k ≤ l.length) : lenS (l.take k ++ 0 :: l.drop k) M (sh k s) = lenS l M s := by
  have hS := sortC_put l k hk
  unfold lenS
  rw [hS, List.length_map]
  by_cases h2 : (sortC l).length < 2
  · rw [if_pos h2, if_pos h2, tot_map]
    exact tot_congr _ _ _ fun p _ => by simp only [sh_inj]
  · rw [if_neg h2, if_neg h2]
    unfold lensN lenOf
    rw [hS]
    have e : ((sortC l).map fun p => (p.1, sh k p.2)).map leafP = ((sortC l).map leafP).map (two (mapP (sh k)) id) := by rw [List.map_map, List.map_map]; rfl
    rw [e, ← lev_map (mapP (sh k)) id PT.node PT.node (fun _ _ => rfl) (fun a b => rfl) (fun a b => Iff.rfl), ← List.map_take, tot_map, List.length_map]
    exact tot_congr _ _ _ fun x _ => occ_mapP k s x.2
theorem lens_put_k (l : List Int) (k M : Nat) (hk : k ≤ l.length) (h1 : 1 ≤ M) (hr : (sortC l).length ≤ 2 ^ M) : lenS (l.take k ++ 0 :: l.drop k) M k = 0 := by
  have hS := sortC_put l k hk
  rcases Nat.eq_zero_or_pos (lenS (l.take k ++ 0 :: l.drop k) M k) with h | h
  · exact h
  · obtain ⟨c, hc, h0⟩ := (lens_pos _ M h1 (by rw [hS, List.length_map]; exact hr) k).1 h
    rw [List.getElem?_append_right (by rw [List.length_take]; omega), List.length_take, Nat.min_eq_left hk, Nat.sub_self] at hc
    simp at hc
    omega
end Go.Proofs.YtciejmlhdmjajaaGreat
namespace Go.Proofs.YtciejmlhdmjajaaGreat
open Go.RowKit
set_option linter.unusedVariables false
set_option linter.unusedSimpArgs false

theorem nrow_put {w : World} {g n j y : Nat} {F : Nat → Nat} (h : Nrow w g 3 .i64 n (fun s => if s < j then F s else 0)) (hF : F j = y) : Nrow (w.setCell ⟨g, j, none⟩ (.int .i64 (y : Int))) g 3 .i64 n (fun s => if s < j + 1 then F s else 0) :=
  h.set_ j y fun s _ => by
    by_cases e : s = j
    · subst e; simp [hF]
    · simp only [if_neg e]
      by_cases h2 : s < j
      · rw [if_pos h2, if_pos (by omega)]
      · rw [if_neg h2, if_neg (by omega)]
/-- Two rows of noughts, new. -/
def TwoMade (w : World) (n : Nat) (v9 v10 : Value) (wx : World) : Prop :=
  ∃ g9 g10, v9 = .slice (some ⟨g9, 0, none⟩) n n ∧ v10 = .slice (some ⟨g10, 0, none⟩) n n ∧ g9 ≠ g10 ∧ w.heap.size ≤ g9 ∧ w.heap.size ≤ g10 ∧ Nrow wx g9 3 .i64 n (fun _ => 0) ∧ Nrow wx g10 3 .i64 n (fun _ => 0) ∧ Fr [] w wx
theorem twoMade_a (w : World) (n : Nat) : TwoMade w n (.slice (some ⟨w.heap.size, 0, none⟩) n n) (.slice (some ⟨w.heap.size + 1, 0, none⟩) n n) ((w.alloc (.cells (madeCells #[.int .i64 0] n) 3)).alloc (.cells (madeCells #[.int .i64 0] n) 3)).drew := by
  have h1 := made_nats w n
  have h2 := made_nats (w.alloc (.cells (madeCells #[.int .i64 0] n) 3)) n
  rw [show (w.alloc (.cells (madeCells #[.int .i64 0] n) 3)).heap.size = w.heap.size + 1 from Array.size_push _] at h2
  have hA := Fr.alloc [] (w.alloc (.cells (madeCells #[.int .i64 0] n) 3)) (.cells (madeCells #[.int .i64 0] n) 3)
  exact ⟨_, _, rfl, rfl, by omega, by omega, by omega, (h1.to hA (by simp)).to (Fr.drew (Fr.refl [] _)) (by simp), h2.to (Fr.drew (Fr.refl [] _)) (by simp), ((Fr.alloc [] _ _).trans hA).drew⟩
theorem twoMade_b {w : World} {n : Nat} {v9 v10 : Value} {wx : World} (h : TwoMade w n v9 v10 wx) : TwoMade w n v10 v9 wx := by
  obtain ⟨g9, g10, h1, h2, h3, h4, h5, h6, h7, h8⟩ := h
  exact ⟨g10, g9, h2, h1, Ne.symm h3, h5, h4, h7, h6, h8⟩
theorem posN_times (F : Nat → Nat) (m : Nat) (hm : 1 ≤ m) : ∀ j, posN (fun s => m * F s) j = posN F j
  | 0 => rfl
  | j + 1 => by
    simp only [posN, posN_times F m hm j]
    by_cases h : 0 < F j
    · rw [if_pos h, if_pos (Nat.mul_pos (by omega) h)]
    · rw [if_neg h, if_neg (by rw [show F j = 0 by omega]; simp)]
theorem lens_row_list {w : World} {g n M : Nat} {F : Nat → Nat} (h : Nrow w g 5 .u8 n (lenS (ctL F n) M)) : SlOf U8 1 w (some ⟨g, 0, none⟩) (lensL (ctL F n) M) := nrow_list h (by unfold lensL; rw [ctL_len])
theorem lensL_len (F : Nat → Nat) (n M : Nat) : (lensL (ctL F n) M).length = n := by unfold lensL; rw [List.length_map, List.length_range, ctL_len]
theorem lensL_mem {F : Nat → Nat} {n M : Nat} (h1 : 1 ≤ M) (h15 : M ≤ 15) (hr : (sortC (ctL F n)).length ≤ 2 ^ M) : ∀ x ∈ lensL (ctL F n) M, x < 256 := fun z hz => by
  obtain ⟨s, _, rfl⟩ := List.mem_map.1 hz
  have := lens_fits (ctL F n) M h1 hr s
  omega
theorem room_of {F : Nat → Nat} {n M : Nat} (h : needN (posN F n : Int) ≤ M) : (sortC (ctL F n)).length ≤ 2 ^ M := by
  rw [← posN_sort]; exact need_room h
/-- What holds at the head of a round of the loop that fills both rows. -/
def FillT (w : World) (g9 g10 n m : Nat) (F : Nat → Nat) (v11 : Value) (wr : World) : Prop :=
  ∃ j : Nat, v11 = .int .i64 (j : Int) ∧ j ≤ n ∧ Nrow wr g9 3 .i64 n (fun s => if s < j then F s else 0) ∧ Nrow wr g10 3 .i64 n (fun s => if s < j then m * F s else 0) ∧ Fr [] w wr
end Go.Proofs.YtciejmlhdmjajaaGreat
namespace Go.Proofs.YtciejmlhdmjajaaGreat
open Go.RowKit
set_option linter.unusedVariables false
set_option linter.unusedSimpArgs false

/-- The less of two, where there are any. -/
def minO (a : Option Nat) : Option Nat → Option Nat
  | none => a
  | some x => match a with
    | none => some x
    | some y => if x < y then some x else some y
/-- The least of the first j ways. -/
def minTo (g : Nat → Option Nat) : Nat → Option Nat
  | 0 => none
  | j + 1 => minO (minTo g j) (g j)
theorem minTo_some (g : Nat → Option Nat) : ∀ j x, minTo g j = some x → ∃ i, i < j ∧ g i = some x
  | 0, x, h => by simp [minTo] at h
  | j + 1, x, h => by
    rw [minTo] at h
    cases hg : g j with
    | none =>
      rw [hg] at h
      obtain ⟨i, h1, h2⟩ := minTo_some g j x h
      exact ⟨i, by omega, h2⟩
    | some y =>
      rw [hg] at h
      cases hm : minTo g j with
      | none => rw [hm] at h; simp [minO] at h; subst h; exact ⟨j, by omega, hg⟩
      | some z =>
        rw [hm] at h
        simp only [minO] at h
        split at h
        · simp at h; subst h; exact ⟨j, by omega, hg⟩
        · simp at h; subst h
          obtain ⟨i, h1, h2⟩ := minTo_some g j z hm
          exact ⟨i, by omega, h2⟩
theorem minTo_le (g : Nat → Option Nat) : ∀ j i x, i < j → g i = some x → ∃ y, minTo g j = some y ∧ y ≤ x
  | 0, i, x, h, _ => by omega
  | j + 1, i, x, h, hx => by
    rw [minTo]
    by_cases hij : i = j
    · subst hij
      rw [hx]
      cases hm : minTo g i with
      | none => exact ⟨x, rfl, Nat.le_refl _⟩
      | some z =>
        simp only [minO]
        by_cases hxz : x < z
        · rw [if_pos hxz]; exact ⟨x, rfl, Nat.le_refl _⟩
        · rw [if_neg hxz]; exact ⟨z, rfl, by omega⟩
    · obtain ⟨y, h1, h2⟩ := minTo_le g j i x (by omega) hx
      rw [h1]
      cases hg : g j with
      | none => exact ⟨y, rfl, h2⟩
      | some u =>
        simp only [minO]
        by_cases hu : u < y
        · rw [if_pos hu]; exact ⟨u, rfl, by omega⟩
        · rw [if_neg hu]; exact ⟨y, rfl, h2⟩
/-- The least weight of whole lengths from size on, of so many codes; f lengths are left. -/
def bestO : Nat → List Nat → Nat → Nat → Option Nat
  | 0, l, _, codes => if l.length = 0 ∧ codes = 0 then some 0 else none
  | f + 1, l, size, codes => if l.length = 0 ∧ codes = 0 then some 0 else if l.length < codes ∨ codes = 0 then none else
    minTo (fun j => (bestO f (l.drop j) (size + 1) (2 * (codes - j))).map (· + size * (l.take j).sum)) (codes + 1)
/-- What lengths weigh. -/
def dotN : List Nat → List Nat → Nat
  | a :: l, b :: m => a * b + dotN l m
  | _, _ => 0
theorem dotN_append : ∀ (a b c d : List Nat), a.length = c.length → dotN (a ++ b) (c ++ d) = dotN a c + dotN b d
  | [], b, [], d, _ => by simp [dotN]
  | [], b, x :: c, d, h => by simp at h
  | x :: a, b, [], d, h => by simp at h
  | x :: a, b, y :: c, d, h => by
    have := dotN_append a b c d (by simpa using h)
    simp only [List.cons_append, dotN, this]; omega
theorem dotN_same (s : Nat) : ∀ (l d : List Nat), d.length = l.length → (∀ x ∈ d, x = s) → dotN d l = s * l.sum
  | [], [], _, _ => by simp [dotN]
  | [], x :: d, h, _ => by simp at h
  | y :: l, [], h, _ => by simp at h
  | y :: l, x :: d, h, hs => by
    rw [dotN, dotN_same s l d (by simpa using h) (fun z hz => hs z (by simp [hz])), hs x (by simp), List.sum_cons, Nat.mul_add]
/-- What Best finds are whole lengths. -/
theorem best_is (limit : Nat) : ∀ (f : Nat) (l : List Nat) (size codes x : Nat), size + f = limit + 1 → bestO f l size codes = some x →
    ∃ d : List Nat, d.length = l.length ∧ (∀ y ∈ d, size ≤ y ∧ y ≤ limit) ∧ tot (fun y => 2 ^ (limit + 1 - y)) d = codes * 2 ^ (limit + 1 - size) ∧ x = dotN d l
  | 0, l, size, codes, x, hf, h => by
    rw [bestO] at h
    split at h
    · rename_i hc
      simp at h
      subst h
      have : l = [] := List.eq_nil_of_length_eq_zero hc.1
      subst this
      exact ⟨[], rfl, fun y hy => by simp at hy, by rw [hc.2]; simp [tot], rfl⟩
    · simp at h
  | f + 1, l, size, codes, x, hf, h => by
    rw [bestO] at h
    split at h
    · rename_i hc
      simp at h
      subst h
      have : l = [] := List.eq_nil_of_length_eq_zero hc.1
      subst this
      exact ⟨[], rfl, fun y hy => by simp at hy, by rw [hc.2]; simp [tot], rfl⟩
    · split at h
      · simp at h
      · rename_i hc2
        obtain ⟨j, hj, hg⟩ := minTo_some _ _ _ h
        rw [Option.map_eq_some_iff] at hg
        obtain ⟨x', hb, rfl⟩ := hg
        obtain ⟨d, d1, d2, d3, d4⟩ := best_is limit f (l.drop j) (size + 1) (2 * (codes - j)) x' (by omega) hb
        have hjl : j ≤ l.length := by omega
        rw [List.length_drop] at d1
        refine ⟨List.replicate j size ++ d, by rw [List.length_append, List.length_replicate, d1]; omega, ?_, ?_, ?_⟩
        · intro y hy
          rcases List.mem_append.1 hy with hy | hy
          · have := List.eq_of_mem_replicate hy; omega
          · have := d2 y hy; omega
        · rw [tot_append, d3]
          have e1 : tot (fun y => 2 ^ (limit + 1 - y)) (List.replicate j size) = j * 2 ^ (limit + 1 - size) := by
            rw [tot_congr _ (fun _ => 2 ^ (limit + 1 - size)) _ (fun y hy => by rw [List.eq_of_mem_replicate hy]), tot_const, List.length_replicate]
          have e2 : 2 * (codes - j) * 2 ^ (limit + 1 - (size + 1)) = (codes - j) * 2 ^ (limit + 1 - size) := by
            rw [show limit + 1 - size = limit + 1 - (size + 1) + 1 by omega, Nat.pow_succ, Nat.mul_comm 2, Nat.mul_assoc, Nat.mul_comm 2]
          rw [e1, e2, ← Nat.add_mul]
          congr 1; omega
        · conv => rhs; rw [← List.take_append_drop j l]
          rw [dotN_append _ _ _ _ (by rw [List.length_replicate, List.length_take]; omega), ← d4, dotN_same size _ _ (by rw [List.length_replicate, List.length_take]; omega) (fun y hy => List.eq_of_mem_replicate hy)]
          omega
/-- Best finds none that weighs more than lengths that do not fall. -/
theorem best_least (limit : Nat) : ∀ (f : Nat) (l d : List Nat) (size codes : Nat), size + f = limit + 1 → d.length = l.length → d.Pairwise (· ≤ ·) → (∀ y ∈ d, size ≤ y ∧ y ≤ limit) → tot (fun y => 2 ^ (limit + 1 - y)) d = codes * 2 ^ (limit + 1 - size) →
    ∃ x, bestO f l size codes = some x ∧ x ≤ dotN d l
  | f, [], d, size, codes, hf, hd, hp, hb, hk => by
    have : d = [] := List.eq_nil_of_length_eq_zero hd
    subst this
    simp only [tot] at hk
    have hc : codes = 0 := by
      rcases Nat.eq_zero_or_pos codes with h | h
      · exact h
      · have := Nat.mul_pos h (Nat.two_pow_pos (limit + 1 - size)); omega
    subst hc
    cases f <;> exact ⟨0, by simp [bestO], by simp⟩
  | 0, c :: l, d, size, codes, hf, hd, hp, hb, hk => by
    cases d with
    | nil => simp at hd
    | cons y d => have := hb y (by simp); omega
  | f + 1, c :: l, d, size, codes, hf, hd, hp, hb, hk => by
    have hpos : 0 < 2 ^ (limit + 1 - size) := Nat.two_pow_pos _
    have hle : codes ≤ (c :: l).length := by
      have : tot (fun y => 2 ^ (limit + 1 - y)) d ≤ d.length * 2 ^ (limit + 1 - size) := by
        rw [← tot_const]
        exact tot_le _ _ _ fun y hy => Nat.pow_le_pow_right (by decide) (by have := hb y hy; omega)
      rw [hk, hd] at this
      exact Nat.le_of_mul_le_mul_right this hpos
    have hc0 : codes ≠ 0 := by
      intro h
      rw [h] at hk
      cases d with
      | nil => simp at hd
      | cons y d => simp only [tot] at hk; have := Nat.two_pow_pos (limit + 1 - y); omega
    -- those of this size are ahead
    obtain ⟨j, hj, h1, h2⟩ : ∃ j, j ≤ d.length ∧ (∀ y ∈ d.take j, y = size) ∧ ∀ y ∈ d.drop j, size + 1 ≤ y := by
      have : ∀ d : List Nat, d.Pairwise (· ≤ ·) → (∀ y ∈ d, size ≤ y) → ∃ j, j ≤ d.length ∧ (∀ y ∈ d.take j, y = size) ∧ ∀ y ∈ d.drop j, size + 1 ≤ y := by
        intro d
        induction d with
        | nil => intro _ _; exact ⟨0, Nat.le_refl _, fun y hy => by simp at hy, fun y hy => by simp at hy⟩
        | cons z d ih =>
          intro hp hs
          have hp2 := List.pairwise_cons.1 hp
          by_cases hz : z = size
          · obtain ⟨j, j1, j2, j3⟩ := ih hp2.2 (fun y hy => hs y (by simp [hy]))
            refine ⟨j + 1, by simp; omega, fun y hy => ?_, fun y hy => j3 y (by simpa using hy)⟩
            rw [List.take_succ_cons] at hy
            rcases List.mem_cons.1 hy with rfl | hy
            · exact hz
            · exact j2 y hy
          · refine ⟨0, Nat.zero_le _, fun y hy => by simp at hy, fun y hy => ?_⟩
            have hzs := hs z (by simp)
            rw [List.drop_zero] at hy
            rcases List.mem_cons.1 hy with rfl | hy
            · omega
            · have := hp2.1 y hy; omega
      exact this d hp fun y hy => (hb y hy).1
    have e1 : tot (fun y => 2 ^ (limit + 1 - y)) (d.take j) = j * 2 ^ (limit + 1 - size) := by
      rw [tot_congr _ (fun _ => 2 ^ (limit + 1 - size)) _ (fun y hy => by rw [h1 y hy]), tot_const, List.length_take, Nat.min_eq_left hj]
    have hk2 : tot (fun y => 2 ^ (limit + 1 - y)) (d.take j) + tot (fun y => 2 ^ (limit + 1 - y)) (d.drop j) = codes * 2 ^ (limit + 1 - size) := by
      rw [← tot_append, List.take_append_drop, hk]
    have hjc : j ≤ codes := by
      refine Nat.le_of_mul_le_mul_right ?_ hpos
      omega
    have e3 : tot (fun y => 2 ^ (limit + 1 - y)) (d.drop j) = 2 * (codes - j) * 2 ^ (limit + 1 - (size + 1)) := by
      have : 2 * (codes - j) * 2 ^ (limit + 1 - (size + 1)) = (codes - j) * 2 ^ (limit + 1 - size) := by
        rw [show limit + 1 - size = limit + 1 - (size + 1) + 1 by omega, Nat.pow_succ, Nat.mul_comm 2, Nat.mul_assoc, Nat.mul_comm 2]
      rw [this]
      have : codes * 2 ^ (limit + 1 - size) = j * 2 ^ (limit + 1 - size) + (codes - j) * 2 ^ (limit + 1 - size) := by rw [← Nat.add_mul]; congr 1; omega
      omega
    obtain ⟨x, b1, b2⟩ := best_least limit f ((c :: l).drop j) (d.drop j) (size + 1) (2 * (codes - j)) (by omega) (by rw [List.length_drop, List.length_drop, hd]) (hp.sublist (List.drop_sublist _ _)) (fun y hy => ⟨h2 y hy, (hb y (List.mem_of_mem_drop hy)).2⟩) e3
    obtain ⟨y, y1, y2⟩ := minTo_le (fun j => (bestO f ((c :: l).drop j) (size + 1) (2 * (codes - j))).map (· + size * ((c :: l).take j).sum)) (codes + 1) j (x + size * ((c :: l).take j).sum) (by omega) (by simp only [b1]; rfl)
    refine ⟨y, ?_, ?_⟩
    · rw [bestO, if_neg (by simp), if_neg (by omega)]
      exact y1
    · refine Nat.le_trans y2 ?_
      have : dotN d (c :: l) = dotN (d.take j) ((c :: l).take j) + dotN (d.drop j) ((c :: l).drop j) := by
        rw [← dotN_append _ _ _ _ (by rw [List.length_take, List.length_take, hd]), List.take_append_drop, List.take_append_drop]
      rw [this, dotN_same size _ _ (by rw [List.length_take, List.length_take, hd]) h1]
      omega
end Go.Proofs.YtciejmlhdmjajaaGreat
namespace Go.Proofs.YtciejmlhdmjajaaGreat
open Go.RowKit
set_option linter.unusedVariables false
set_option linter.unusedSimpArgs false

/-- Who comes later in the row has no longer one. -/
theorem lens_rank (l : List Int) (M : Nat) (h1 : 1 ≤ M) (hr : (sortC l).length ≤ 2 ^ M) (h2 : 2 ≤ (sortC l).length) (i k : Nat) (p q : Nat × Nat) (hi : (sortC l)[i]? = some p) (hk : (sortC l)[k]? = some q) (hik : i ≤ k) : lenS l M q.2 ≤ lenS l M p.2 := by
  obtain ⟨j, rfl⟩ : ∃ j, M = j + 1 := ⟨M - 1, by omega⟩
  obtain ⟨hroom, _⟩ := pm symP PT.node occ (fun _ _ _ => rfl) ((sortC l).map leafP) (occ_leafP _) (sortC_srt l) (sortC_dst l) j (by simpa using h2) (by simpa using hr)
  obtain ⟨a, a1, a2, a3, _, _⟩ := len_shape symP PT.node occ (fun _ _ _ => rfl) ((sortC l).map leafP) (occ_leafP _) (sortC_srt l) j _ hroom
  have e : ∀ s, lenS l (j + 1) s = sumTo (fun i => kap symP (((sortC l).map leafP).take (a i)) s) j := fun s => by
    unfold lenS lensN lenOf; rw [if_neg (by omega), Nat.add_sub_cancel]; exact a3 s
  have hpi : ((sortC l).map leafP)[i]? = some (leafP p) := by rw [List.getElem?_map, hi]; rfl
  have hqk : ((sortC l).map leafP)[k]? = some (leafP q) := by rw [List.getElem?_map, hk]; rfl
  rw [e, e]
  refine sumTo_le _ _ _ fun t _ => ?_
  rw [show p.2 = symP (leafP p).2 from rfl, show q.2 = symP (leafP q).2 from rfl, kap_get symP _ _ i _ (sortC_dst l) hpi, kap_get symP _ _ k _ (sortC_dst l) hqk]
  by_cases h : k < a t
  · rw [if_pos h, if_pos (by omega)]; exact Nat.le_refl _
  · rw [if_neg h]; exact Nat.zero_le _
theorem dotN_rev : ∀ (a b : List Nat), a.length = b.length → dotN a.reverse b.reverse = dotN a b
  | [], [], _ => rfl
  | [], x :: b, h => by simp at h
  | x :: a, [], h => by simp at h
  | x :: a, y :: b, h => by
    have h' : a.length = b.length := by simpa using h
    rw [List.reverse_cons, List.reverse_cons, dotN_append _ _ _ _ (by simpa using h'), dotN_rev a b h']
    simp only [dotN]; omega
theorem dotN_map {β : Type} (f g : β → Nat) : ∀ S : List β, dotN (S.map f) (S.map g) = tot (fun p => g p * f p) S
  | [] => rfl
  | p :: S => by rw [List.map_cons, List.map_cons, dotN, dotN_map f g S]; simp only [tot]; rw [Nat.mul_comm]
theorem cntL_all : ∀ (xs : List Int) (s : Nat), (∀ x ∈ xs, 0 < x) → (cntL s xs).map (·.1) = xs.map Int.toNat
  | [], s, _ => rfl
  | c :: xs, s, h => by
    rw [cntL, if_pos (h c (by simp)), List.map_cons, List.map_cons, cntL_all xs (s + 1) (fun x hx => h x (by simp [hx]))]
theorem best_pm (l : List Int) (fl : List Nat) (M : Nat) (h1 : 1 ≤ M) (hpos : ∀ x ∈ l, 0 < x) (hlen : 2 ≤ l.length) (hp : fl.Perm (l.map Int.toNat)) (hs : fl.Pairwise (· ≥ ·)) :
    bestO M fl 1 2 = if l.length ≤ 2 ^ M then some (weighN (lensL l M) l) else none := by
  have hSp : ((sortC l).map (·.1)).Perm (l.map Int.toNat) := by
    rw [← cntL_all l 0 hpos]; exact (sortC_perm l).map _
  have hSl : (sortC l).length = l.length := by
    have := hSp.length_eq
    rwa [List.length_map, List.length_map] at this
  have hfl : fl = ((sortC l).map (·.1)).reverse := by
    refine List.Perm.eq_of_pairwise (le := (· ≥ ·)) (fun a b _ _ h1 h2 => Nat.le_antisymm h2 h1) hs ?_ ((hp.trans hSp.symm).trans (List.reverse_perm _).symm)
    rw [List.pairwise_reverse]
    have := sortC_srt l
    unfold srt at this
    rw [List.pairwise_map] at this ⊢
    exact this
  have lower : ∀ x, bestO M fl 1 2 = some x → l.length ≤ 2 ^ M ∧ weighN (lensL l M) l ≤ x := by
    intro x hx
    obtain ⟨d, d1, d2, d3, d4⟩ := best_is M M fl 1 2 x (by omega) hx
    have hdl : d.length = l.length := by rw [d1, hp.length_eq, List.length_map]
    have hroom : l.length ≤ 2 ^ M := by
      have : tot (fun _ => 2) d ≤ tot (fun y => 2 ^ (M + 1 - y)) d := tot_le _ _ _ fun y hy => by
        have := d2 y hy
        have : 2 ^ 1 ≤ 2 ^ (M + 1 - y) := Nat.pow_le_pow_right (by decide) (by omega)
        simpa using this
      rw [tot_const, d3, hdl, Nat.add_sub_cancel] at this
      omega
    refine ⟨hroom, ?_⟩
    obtain ⟨_, _, _, _, q5⟩ := lens_pm l M h1 (by omega) (by omega)
    unfold lensL
    rw [weigh_sortC]
    obtain ⟨ℓ, hℓ⟩ : ∃ ℓ : Nat → Nat, ℓ = fun s => d.reverse.getD ((sortC l).findIdx (fun q => q.2 == s)) 0 := ⟨_, rfl⟩
    have hmap : (sortC l).map (fun p => ℓ p.2) = d.reverse := by
      apply List.ext_getElem?
      intro i
      by_cases hi : i < (sortC l).length
      · have hfi : (sortC l).findIdx (fun q => q.2 == (sortC l)[i].2) = i := by
          rw [List.findIdx_eq hi]
          refine ⟨by simp, fun k hk => ?_⟩
          have hd := sortC_dst l
          unfold dst at hd
          rw [List.pairwise_map, List.pairwise_iff_getElem] at hd
          have := hd k i (by omega) hi hk
          simp only [leafP, symP] at this
          simpa using this
        rw [List.getElem?_map, List.getElem?_eq_getElem hi, Option.map_some, hℓ]
        simp only
        rw [hfi, List.getD_eq_getElem?_getD, List.getElem?_eq_getElem (by rw [List.length_reverse]; omega), Option.getD_some]
      · rw [List.getElem?_eq_none (by simp; omega), List.getElem?_eq_none (by simp; omega)]
    have hmem : ∀ p ∈ sortC l, ℓ p.2 ∈ d := fun p hp => by
      have : ℓ p.2 ∈ (sortC l).map fun p => ℓ p.2 := List.mem_map.2 ⟨p, hp, rfl⟩
      rw [hmap] at this
      simpa using this
    have := q5 ℓ (fun p hp => d2 _ (hmem p hp)) (by
      have e : tot (fun p : Nat × Nat => 2 ^ (M - ℓ p.2)) (sortC l) = tot (fun y => 2 ^ (M - y)) d := by
        rw [← tot_map (fun y => 2 ^ (M - y)) (fun p : Nat × Nat => ℓ p.2), hmap, tot_perm _ (List.reverse_perm d)]
      have e2 : tot (fun y => 2 ^ (M + 1 - y)) d = tot (fun y => 2 ^ (M - y)) d * 2 := by
        rw [← tot_mul]
        exact tot_congr _ _ _ fun y hy => by
          have := d2 y hy
          rw [show M + 1 - y = M - y + 1 by omega, Nat.pow_succ]
      rw [e]
      rw [e2, Nat.add_sub_cancel] at d3
      omega)
    refine Nat.le_trans this (Nat.le_of_eq ?_)
    rw [d4, hfl, ← dotN_map (fun p : Nat × Nat => ℓ p.2) (·.1), hmap]
    have e := dotN_rev d.reverse ((sortC l).map (·.1)) (by rw [List.length_reverse, List.length_map]; omega)
    rw [List.reverse_reverse] at e
    exact e.symm
  by_cases hroom : l.length ≤ 2 ^ M
  · rw [if_pos hroom]
    obtain ⟨q1, _, _, q4, _⟩ := lens_pm l M h1 (by omega) (by omega)
    have hd : ((sortC l).map fun p => lenS l M p.2).reverse.Pairwise (· ≤ ·) := by
      rw [List.pairwise_reverse, List.pairwise_map, List.pairwise_iff_getElem]
      intro i j hi hj hij
      exact lens_rank l M h1 (by omega) (by omega) i j _ _ (List.getElem?_eq_getElem hi) (List.getElem?_eq_getElem hj) (by omega)
    obtain ⟨x, b1, b2⟩ := best_least M M fl ((sortC l).map fun p => lenS l M p.2).reverse 1 2 (by omega) (by rw [hfl]; simp) hd (fun y hy => by
      rw [List.mem_reverse] at hy
      obtain ⟨p, hp, rfl⟩ := List.mem_map.1 hy
      exact q1 p hp) (by
      rw [tot_perm _ (List.reverse_perm _), tot_map, Nat.add_sub_cancel, ← q4, Nat.mul_comm, ← tot_mul]
      exact tot_congr _ _ _ fun p hp => by
        have := q1 p hp
        rw [show M + 1 - lenS l M p.2 = M - lenS l M p.2 + 1 by omega, Nat.pow_succ])
    rw [b1]
    congr 1
    refine Nat.le_antisymm ?_ (lower x b1).2
    refine Nat.le_trans b2 (Nat.le_of_eq ?_)
    unfold lensL
    rw [weigh_sortC, hfl, dotN_rev _ _ (by simp), dotN_map]
  · rw [if_neg hroom]
    cases hb : bestO M fl 1 2 with
    | none => rfl
    | some x => exact absurd (lower x hb).1 hroom
end Go.Proofs.YtciejmlhdmjajaaGreat
namespace Go.Proofs.YtciejmlhdmjajaaGreat
open Go.RowKit
set_option linter.unusedVariables false
set_option linter.unusedSimpArgs false

theorem elemI : Elem Tryz.prog 81 3 1 8 := by
  refine ⟨Tryz.underlying81, ?_⟩
  obtain ⟨i0, hi, hz0, hz1, hz2⟩ := info_parts (show (Tryz.prog.info? 3).map (fun i => (i.zero, i.size, i.bytes)) = some (some (.int .i64 0), 1, 8) by kernel_rfl)
  exact ⟨i0, _, hi, hz0, hz1, hz2, rfl, by decide⟩
/-- 'append(row, xs...)' at a step of a region that draws; the row is the call's own, xs may be empty. -/
theorem step_catz {wo W : World} {ops : Array Oper} {o : Oper} {a : Act} {K : Act → World → Prop} {Q : Exit → Act → World → Prop} {X : Prop} (hgd : o.guard = none) (s x : Operand)
    (ho : o.op = .call { callee := .builtin .append, args := #[s, x], argTypes := #[81, 81] })
    (N n c0 : Nat) (xs : List Value) (hs : a.eval s = .slice (some ⟨N, 0, none⟩) n c0) (hown : W.ownsRow wo.heap.size 3 1 (.slice (some ⟨N, 0, none⟩) n c0) n xs) (hfr : Fr [] wo W)
    (ad : Addr) (m c : Nat) (news : List Value) (hx : a.eval x = .slice (some ad) m c) (hl : news.length = m) (hnews : ∀ j u, news[j]? = some u → W.cell? (ad.add j) = some u) (h1 : ∀ u ∈ news, u.oneCell' = true)
    (nm : Nat) (hnm : n + m = nm) (hnm2 : nm ≤ 1000)
    (h : ∀ g cap w', Hid (w'.ownsRow wo.heap.size 3 1 (.slice (some ⟨g, 0, none⟩) nm cap) nm (xs ++ news) ∧ W.grownBy w' (some N) ∧ Fr [] wo w') → K (a.put o.dst (.slice (some ⟨g, 0, none⟩) nm cap)) w') :
    if Region.wanted o (yielded ops a.tmps) = true then Oper.wp Tryz.prog o a W K Q else X := by
  subst hnm
  have hw : Region.wanted o (yielded ops a.tmps) = true := by simp [Region.wanted, hgd]
  rw [if_pos hw]
  obtain ⟨ht, i, z, hi, hz, hsz, hby, hzs, hpos⟩ := elemI
  have hlt := hown.lt N rfl
  refine wp_append_own W s x 81 ho wo.heap.size 3 i z 1 8 ht hi hz hsz hby hzs hpos _ n xs hs hown ad m c news hx (by omega) hnews h1 (by unfold maxLen; omega) (by omega) (by omega) ?_
  intro v' w' k1 k2 k3
  rcases k1.2 with ⟨hv, _⟩ | ⟨g, cap, cur, hv, _⟩
  · have := (k3.1 hv).1; simp at this
  · subst hv
    have hsz := hfr.size
    exact h g cap w' (Lib.hid ⟨k1, k2, k2.os.trans hfr.os, k2.tape.trans hfr.tape, k2.output.trans hfr.output, Nat.le_trans hfr.size k2.size, fun k hk _ => (k2.block k (by omega) (by simp [Value.ownBlock]; omega)).trans (hfr.block k hk (by simp))⟩)
theorem own_empty {w : World} {B N : Nat} (h : w.heap[N]? = some (.cells #[] 3 (0, 0))) (hB : B ≤ N) : w.ownsRow B 3 1 (.slice (some ⟨N, 0, none⟩) 0 0) 0 [] :=
  ⟨rfl, .inr ⟨N, 0, #[], rfl, hB, h, Nat.le_refl _, by unfold maxLen; omega, rfl, rfl⟩⟩
/-- A part of a row of numbers, as what is appended. -/
theorem news_irow {w : World} {g n o m : Nat} {F : Nat → Nat} (h : Nrow w g 3 .i64 n F) (hm : o + m ≤ n) : ∀ j u, ((List.range m).map fun i => Value.int .i64 (F (o + i) : Int))[j]? = some u → w.cell? ((⟨g, o, none⟩ : Addr).add j) = some u := fun j u hu => by
  have hj : j < m := by have := (List.getElem?_eq_some_iff.1 hu).1; simpa using this
  rw [add_none, h.cell (o + j) (by omega), ← hu, List.getElem?_map, List.getElem?_range hj]
  rfl
theorem one_irow (m o : Nat) (F : Nat → Nat) : ∀ u ∈ (List.range m).map fun i => Value.int .i64 (F (o + i) : Int), u.oneCell' = true := by
  intro u hu
  obtain ⟨i, _, rfl⟩ := List.mem_map.1 hu
  rfl
/-- The counts' row is as it was, and nothing that was there has turned. -/
def SS (wo : World) (gc n : Nat) (F : Nat → Nat) (w : World) : Prop := Nrow w gc 3 .i64 n F ∧ Fr [] wo w
theorem SS.alloc {wo : World} {gc n : Nat} {F : Nat → Nat} {w : World} {o : Obj} (h : SS wo gc n F w) : SS wo gc n F (w.alloc o) := ⟨h.1.to (Fr.alloc [] w o) (by simp), h.2.trans (Fr.alloc _ _ _)⟩
theorem SS.drew {wo : World} {gc n : Nat} {F : Nat → Nat} {w : World} (h : SS wo gc n F w) : SS wo gc n F w.drew := ⟨h.1.to (Fr.drew (Fr.refl [] w)) (by simp), h.2.drew⟩
theorem SS.grow {wo : World} {gc n : Nat} {F : Nat → Nat} {w w' : World} {N : Nat} (h : SS wo gc n F w) (hgc : gc < wo.heap.size) (hg : w.grownBy w' (some N)) (hN : wo.heap.size ≤ N) : SS wo gc n F w' := by
  have hsz := h.2.size
  refine ⟨?_, hg.os.trans h.2.os, hg.tape.trans h.2.tape, hg.output.trans h.2.output, Nat.le_trans h.2.size hg.size, fun k hk _ => (hg.block k (by omega) (by simp; omega)).trans (h.2.block k hk (by simp))⟩
  unfold Nrow
  rw [hg.block gc (by omega) (by simp; omega)]
  exact h.1
theorem blk_grow {w w' : World} {N b : Nat} {o : Obj} (hg : w.grownBy w' (some N)) (hb : w.heap[b]? = some o) (hne : b ≠ N) : w'.heap[b]? = some o := by
  rw [hg.block b (lt_of hb) (by simpa using hne)]; exact hb
/-- What holds at the head of a round of the loop that fills the counts. -/
def FillN (w : World) (gc n : Nat) (F : Nat → Nat) (v9 : Value) (wr : World) : Prop :=
  ∃ j : Nat, v9 = .int .i64 (j : Int) ∧ j ≤ n ∧ Nrow wr gc 3 .i64 n (fun s => if s < j then F s else 0) ∧ Fr [] w wr
/-- The counts, one put in that does not count. -/
def PutMade (wo : World) (l : List Int) (n1 : Nat) (v11 : Value) (wx : World) : Prop :=
  ∃ gm cm, v11 = .slice (some ⟨gm, 0, none⟩) n1 cm ∧ l.length = n1 ∧ SlOf (Zn .i64) 1 wx (some ⟨gm, 0, none⟩) l ∧ Fr [] wo wx
theorem put_len (l : List Int) (k : Nat) (hk : k ≤ l.length) : (l.take k ++ 0 :: l.drop k).length = l.length + 1 := by
  rw [List.length_append, List.length_cons, List.length_take, List.length_drop]; omega
theorem putMade_of {wo w : World} {F : Nat → Nat} {n k m g cap n1 : Nat} {xs : List Value} (hk : k ≤ n) (hm : m = n - k) (hn1 : n + 1 = n1) (h : w.ownsRow wo.heap.size 3 1 (.slice (some ⟨g, 0, none⟩) n1 cap) n1 xs)
    (hx : xs = (([] ++ (List.range k).map fun i => Value.int .i64 (F (0 + i) : Int)) ++ [.int .i64 0]) ++ (List.range m).map fun i => Value.int .i64 (F (k + i) : Int)) (hf : Fr [] wo w) : PutMade wo ((ctL F n).take k ++ 0 :: (ctL F n).drop k) n1 (.slice (some ⟨g, 0, none⟩) n1 cap) w := by
  subst hm
  have hlen : ((ctL F n).take k ++ 0 :: (ctL F n).drop k).length = n1 := by rw [put_len _ _ (by rw [ctL_len]; exact hk), ctL_len, hn1]
  have hfl : xs = ((ctL F n).take k ++ 0 :: (ctL F n).drop k).flatMap (Zn .i64) := by
    have e : ctL F n = (List.range k).map (fun i => (F (0 + i) : Int)) ++ (List.range (n - k)).map fun i => (F (k + i) : Int) := by
      unfold ctL
      conv => lhs; rw [show n = k + (n - k) by omega, List.range_add, List.map_append, List.map_map]
      congr 1
      exact List.map_congr_left fun i _ => by rw [Nat.zero_add]
    have e1 : (ctL F n).take k = (List.range k).map (fun i => (F (0 + i) : Int)) := by rw [e, List.take_left' (by simp)]
    have e2 : (ctL F n).drop k = (List.range (n - k)).map fun i => (F (k + i) : Int) := by rw [e, List.drop_left' (by simp)]
    rw [hx, e1, e2, List.flatMap_append, List.flatMap_cons, List.flatMap_map, List.flatMap_map, List.nil_append, List.append_assoc]
    have hg : ∀ (f : Nat → Int) (l : List Nat), l.flatMap (fun i => Zn .i64 (f i)) = l.map fun i => Value.int .i64 (f i) := by
      intro f l
      induction l with
      | nil => rfl
      | cons x l ih => rw [List.flatMap_cons, List.map_cons, ih]; rfl
    rw [hg (fun i => (F (0 + i) : Int)), hg (fun i => (F (k + i) : Int))]
    rfl
  subst hfl
  obtain ⟨a0, c, h1, h2⟩ := slOf_own (enc := Zn .i64) (fun _ => rfl) h hlen.symm
  simp at h1
  obtain ⟨rfl, _, rfl⟩ := h1
  exact ⟨g, cap, rfl, hlen, h2, hf⟩
/-- pack.Lens, of counts among which one is put that does not count. -/
theorem lens_put_row (g n k n1 cp M : Nat) (F : Nat → Nat) (w : World) (hS : SlOf (Zn .i64) 1 w (some ⟨g, 0, none⟩) ((ctL F n).take k ++ 0 :: (ctL F n).drop k)) (hlen : ((ctL F n).take k ++ 0 :: (ctL F n).drop k).length = n1) (hk : k ≤ n) (hn : n ≤ 300) (hF : ∀ i, i < n → F i ≤ 1073741824) (h1 : 1 ≤ M) (h2 : M ≤ 15) :
    Calls Tryz.prog 38 #[.slice (some ⟨g, 0, none⟩) n1 cp, .int .i64 (M : Int)] w fun e w' => Fr [] w w' ∧ (M < needN (posN F n : Int) ∧ e = .returned (.tuple #[.slice none 0 0, .int .i64 2]) ∨ needN (posN F n : Int) ≤ M ∧ ∃ gl, e = .returned (.tuple #[.slice (some ⟨gl, 0, none⟩) n1 n1, .int .i64 0]) ∧ w.heap.size ≤ gl ∧ Nrow w' gl 5 .u8 n1 (lenS ((ctL F n).take k ++ 0 :: (ctL F n).drop k) M)) := by
  have hk' : k ≤ (ctL F n).length := by rw [ctL_len]; exact hk
  have hl := put_len (ctL F n) k hk'
  rw [ctL_len] at hl
  have hgood : ¬ badC ((ctL F n).take k ++ 0 :: (ctL F n).drop k) := badC_not (by omega) fun x hx => by
    rcases List.mem_append.1 hx with hx | hx
    · have := ctL_mem hF x (List.mem_of_mem_take hx); omega
    · rcases List.mem_cons.1 hx with rfl | hx
      · omega
      · have := ctL_mem hF x (List.mem_of_mem_drop hx); omega
  have hiff : badP ((ctL F n).take k ++ 0 :: (ctL F n).drop k) (M : Int) ↔ M < needN (posN F n : Int) := by
    unfold badP
    rw [sortC_put _ k hk', List.length_map, ← posN_sort]
    constructor
    · rintro (h' | h' | h' | h')
      · exact absurd h' hgood
      · omega
      · omega
      · omega
    · intro h'; exact .inr (.inr (.inr (by omega)))
  have h := lens_any (some ⟨g, 0, none⟩) cp ((ctL F n).take k ++ 0 :: (ctL F n).drop k) (M : Int) w hS (by omega) (by omega) (by omega)
  rw [hlen, Int.toNat_natCast] at h
  refine h.mono fun e w' ⟨k1, k2⟩ => ⟨k1, ?_⟩
  rcases k2 with ⟨k2, k3⟩ | ⟨k2, k3⟩
  · exact .inl ⟨hiff.1 k2, k3⟩
  · rw [hiff] at k2
    exact .inr ⟨by omega, k3⟩
theorem keep17 {w3 W : World} {gb k z : Nat} (h : Hid (w3.cell? ⟨gb, k, none⟩ = some (.int .u8 (z : Int)) ∧ gb < w3.heap.size)) (f : Fr [] w3 W) : Fr [] w3 W ∧ W.cell? ⟨gb, k, none⟩ = some (.int .u8 (z : Int)) :=
  ⟨f, by rw [f.below.cell (p := ⟨gb, k, none⟩) h.out.2]; exact h.out.1⟩
theorem sl_part {w : World} {g n o m : Nat} {F : Nat → Nat} (h : Nrow w g 5 .u8 n F) (hm : o + m ≤ n) : SlOf U8 1 w (some ⟨g, o, none⟩) ((List.range m).map fun i => F (o + i)) := fun _ => by
  refine ⟨g, o, rfl, lt_of h, fun i x hi j u hu => ?_⟩
  have hj : j = 0 := by
    have := (List.getElem?_eq_some_iff.1 hu).1
    simp [U8] at this
    exact this
  subst hj
  have hin : i < m := by have := (List.getElem?_eq_some_iff.1 hi).1; simpa using this
  rw [List.getElem?_map, List.getElem?_range hin] at hi
  simp at hi
  subst hi
  rw [Nat.mul_one, Nat.add_zero, h.cell (o + i) (by omega), ← hu]
  rfl
end Go.Proofs.YtciejmlhdmjajaaGreat
namespace Go.Proofs.YtciejmlhdmjajaaGreat
open Go.RowKit
set_option linter.unusedVariables false
set_option linter.unusedSimpArgs false

/-- -1: there is none. -/
def encO : Option Nat → Int
  | none => -1
  | some x => (x : Int)
theorem dotN_le (A B : Nat) : ∀ (d l : List Nat), (∀ x ∈ d, x ≤ A) → (∀ x ∈ l, x ≤ B) → dotN d l ≤ l.length * (A * B)
  | [], l, _, _ => by simp [dotN]
  | a :: d, [], _, _ => by simp [dotN]
  | a :: d, b :: l, h, k => by
    have ih := dotN_le A B d l (fun x hx => h x (by simp [hx])) (fun x hx => k x (by simp [hx]))
    have : a * b ≤ A * B := Nat.mul_le_mul (h a (by simp)) (k b (by simp))
    simp only [dotN, List.length_cons, Nat.add_mul]; omega
theorem best_bound {limit f size codes x : Nat} {l : List Nat} (hf : size + f = limit + 1) (hl : l.length ≤ 10) (hb : ∀ y ∈ l, y ≤ 65536) (hlim : limit ≤ 10) (h : bestO f l size codes = some x) : x ≤ 6553600 := by
  obtain ⟨d, _, d2, _, rfl⟩ := best_is limit f l size codes x hf h
  have := dotN_le 10 65536 d l (fun y hy => by have := d2 y hy; omega) hb
  have : l.length * (10 * 65536) ≤ 10 * (10 * 65536) := Nat.mul_le_mul_right _ hl
  omega
theorem sum_take_le (B : Nat) : ∀ (l : List Nat) (j : Nat), (∀ x ∈ l, x ≤ B) → (l.take j).sum ≤ l.length * B
  | [], j, _ => by simp
  | b :: l, 0, _ => by simp
  | b :: l, j + 1, h => by
    have := sum_take_le B l j (fun x hx => h x (by simp [hx]))
    have := h b (by simp)
    rw [List.take_succ_cons, List.sum_cons, List.length_cons, Nat.add_mul]; omega
/-- What holds at the head of a round of Best's loop. -/
def BestR (g : Nat → Option Nat) (l : List Nat) (size codes : Nat) (w : World) (v12 v13 v14 : Value) (wr : World) : Prop :=
  ∃ j s b, v12 = .int .i64 b ∧ encO (minTo g j) = b ∧ v13 = .int .i64 ((s : Nat) : Int) ∧ s = size * (l.take j).sum ∧ v14 = .int .i64 ((j : Nat) : Int) ∧ j ≤ codes + 1 ∧ wr = w
end Go.Proofs.YtciejmlhdmjajaaGreat
namespace Go.Proofs.YtciejmlhdmjajaaGreat
open Go.RowKit
set_option linter.unusedVariables false
set_option linter.unusedSimpArgs false

/-- Whole numbers, as cells. -/
def ivs (n : Nat) (F : Nat → Nat) : List Value := (List.range n).map fun j => Value.int .i64 (F j : Int)
theorem ivs_congr {n : Nat} {F G : Nat → Nat} (h : ∀ j, j < n → F j = G j) : ivs n F = ivs n G := List.map_congr_left fun j hj => by rw [h j (List.mem_range.1 hj)]
theorem ivs_snoc (n : Nat) (F : Nat → Nat) : ivs (n + 1) F = ivs n F ++ [.int .i64 (F n : Int)] := by unfold ivs; rw [List.range_succ, List.map_append]; rfl
theorem own_blk {w : World} {B g n cap : Nat} {xs : List Value} (h : w.ownsRow B 3 1 (.slice (some ⟨g, 0, none⟩) n cap) n xs) : ∃ cur, w.heap[g]? = some (.cells cur 3 (0, 0)) := by
  rcases h.2 with ⟨h1, _⟩ | ⟨g', cap', cur, he, hb, hg, _⟩
  · simp at h1
  · simp at he
    obtain ⟨rfl, _⟩ := he
    exact ⟨cur, hg⟩
theorem own_cell {w : World} {B g n cap : Nat} {F : Nat → Nat} (h : w.ownsRow B 3 1 (.slice (some ⟨g, 0, none⟩) n cap) n (ivs n F)) (k : Nat) (hk : k < n) : w.cell? ⟨g, k, none⟩ = some (.int .i64 (F k : Int)) := by
  have := h.cells (g := g) rfl k (.int .i64 (F k : Int)) (by unfold ivs; rw [List.getElem?_map, List.getElem?_range hk]; rfl)
  rwa [add_none, Nat.zero_add] at this
theorem own_set {w : World} {B g n cap : Nat} {F G : Nat → Nat} {k y : Nat} (h : w.ownsRow B 3 1 (.slice (some ⟨g, 0, none⟩) n cap) n (ivs n F)) (hG : ∀ j, j < n → G j = if j = k then y else F j) : (w.setCell ⟨g, k, none⟩ (.int .i64 (y : Int))).ownsRow B 3 1 (.slice (some ⟨g, 0, none⟩) n cap) n (ivs n G) := by
  refine ⟨by unfold ivs; simp, ?_⟩
  rcases h.2 with ⟨h1, _⟩ | ⟨g', cap', cur, he, hb, hg, hc, hm, hs, ht⟩
  · simp at h1
  · simp at he
    obtain ⟨rfl, rfl⟩ := he
    refine .inr ⟨g, cap, cur.setIfInBounds k (.int .i64 (y : Int)), rfl, hb, set_of hg k _, hc, hm, by simpa using hs, ?_⟩
    rw [Array.toList_setIfInBounds, List.take_set, ht]
    apply List.ext_getElem?
    intro i
    unfold ivs
    rw [List.getElem?_set]
    by_cases hi : i < n
    · rw [List.getElem?_map, List.getElem?_map, List.getElem?_range hi, Option.map_some, Option.map_some, hG i hi]
      by_cases hik : k = i
      · subst hik; simp [hi]
      · rw [if_neg hik, if_neg (Ne.symm hik)]
    · rw [List.getElem?_eq_none (by simp; omega), List.getElem?_eq_none (by simp; omega)]
      by_cases hik : k = i
      · subst hik; rw [if_pos rfl, if_neg (by simp; omega)]
      · rw [if_neg hik]
theorem swap_perm (n a b : Nat) (F : Nat → Nat) (ha : a < n) (hb : b < n) : ((List.range n).map (swapF F a b)).Perm ((List.range n).map F) := by
  have e : (List.range n).map (swapF F a b) = ((List.range n).map (swapF id a b)).map F := by
    rw [List.map_map]
    exact List.map_congr_left fun k _ => by
      simp only [swapF, Function.comp, id]
      by_cases h1 : k = a
      · rw [if_pos h1, if_pos h1]
      · rw [if_neg h1, if_neg h1]
        by_cases h2 : k = b
        · rw [if_pos h2, if_pos h2]
        · rw [if_neg h2, if_neg h2]
  rw [e]
  refine List.Perm.map F ?_
  have hnd : ((List.range n).map (swapF id a b)).Nodup := by
    unfold List.Nodup
    rw [List.pairwise_map]
    refine List.Pairwise.imp_of_mem ?_ List.pairwise_lt_range
    intro i j _ _ hij
    simp only [swapF, id]
    repeat' split
    all_goals omega
  rw [List.perm_ext_iff_of_nodup hnd List.nodup_range]
  intro k
  constructor
  · intro hk
    obtain ⟨i, hi, rfl⟩ := List.mem_map.1 hk
    have := List.mem_range.1 hi
    simp only [swapF, id]
    rw [List.mem_range]
    split
    · exact hb
    · split
      · exact ha
      · exact this
  · intro hk
    have := List.mem_range.1 hk
    refine List.mem_map.2 ⟨swapF id a b k, ?_, ?_⟩
    · rw [List.mem_range]
      simp only [swapF, id]
      split
      · exact hb
      · split
        · exact ha
        · exact this
    · simp only [swapF, id]
      by_cases h1 : k = a
      · subst h1; simp
      · rw [if_neg h1]
        by_cases h2 : k = b
        · subst h2; simp
        · rw [if_neg h2, if_neg h1, if_neg h2]
/-- In falling order, but for what stands at k. -/
def Fall (F : Nat → Nat) (n k : Nat) : Prop := ∀ a b, a < b → b < n → b ≠ k → F b ≤ F a
theorem Fall.step {F : Nat → Nat} {n k : Nat} (h : Fall F n k) (hk : 0 < k) (hn : k < n) (hx : F (k - 1) < F k) : Fall (swapF F k (k - 1)) n (k - 1) := by
  intro a b hab hb hne
  simp only [swapF]
  by_cases h1 : b = k
  · subst h1
    rw [if_pos rfl]
    by_cases h2 : a = b - 1
    · subst h2; rw [if_neg (by omega), if_pos rfl]; omega
    · rw [if_neg (by omega), if_neg h2]
      exact h a (b - 1) (by omega) (by omega) (by omega)
  · rw [if_neg h1, if_neg hne]
    by_cases h2 : a = k
    · subst h2; rw [if_pos rfl]; exact h (a - 1) b (by omega) hb (by omega)
    · rw [if_neg h2]
      by_cases h3 : a = k - 1
      · subst h3; rw [if_pos rfl]
        have := h (k - 1) b (by omega) hb h1
        omega
      · rw [if_neg h3]; exact h a b hab hb (by omega)
theorem Fall.done {F : Nat → Nat} {n k : Nat} (h : Fall F n k) (hk : k = 0 ∨ F k ≤ F (k - 1)) : ∀ a b, a < b → b < n → F b ≤ F a := by
  intro a b hab hb
  by_cases hbk : b = k
  · subst hbk
    rcases hk with hk | hk
    · omega
    · by_cases ha : a = b - 1
      · rw [ha]; exact hk
      · exact Nat.le_trans hk (h a (b - 1) (by omega) (by omega) (by omega))
  · exact h a b hab hb hbk
/-- pack.Lens, of counts that all count, wherever they lie. -/
theorem lens_all (g n cp M : Nat) (F : Nat → Nat) (w : World) (hS : SlOf (Zn .i64) 1 w (some ⟨g, 0, none⟩) (ctL F n)) (hn : n ≤ 320) (hF : ∀ i, i < n → F i ≤ 1073741824) (h1 : 1 ≤ M) (h2 : M ≤ 15) :
    Calls Tryz.prog 38 #[.slice (some ⟨g, 0, none⟩) n cp, .int .i64 (M : Int)] w fun e w' => Fr [] w w' ∧ (M < needN (posN F n : Int) ∧ e = .returned (.tuple #[.slice none 0 0, .int .i64 2]) ∨ needN (posN F n : Int) ≤ M ∧ ∃ gl, e = .returned (.tuple #[.slice (some ⟨gl, 0, none⟩) n n, .int .i64 0]) ∧ w.heap.size ≤ gl ∧ Nrow w' gl 5 .u8 n (lenS (ctL F n) M)) := by
  have h := lens_any (some ⟨g, 0, none⟩) cp (ctL F n) (M : Int) w hS (by rw [ctL_len]; omega) (by omega) (by omega)
  rw [ctL_len, Int.toNat_natCast] at h
  refine h.mono fun e w' ⟨k1, k2⟩ => ⟨k1, ?_⟩
  rcases k2 with ⟨k2, k3⟩ | ⟨k2, k3⟩
  · exact .inl ⟨(ctL_bad hn hF h1 h2).1 k2, k3⟩
  · rw [ctL_bad hn hF h1 h2] at k2
    exact .inr ⟨by omega, k3⟩
theorem sl_own {w : World} {B g n cap : Nat} {F : Nat → Nat} (h : w.ownsRow B 3 1 (.slice (some ⟨g, 0, none⟩) n cap) n (ivs n F)) : SlOf (Zn .i64) 1 w (some ⟨g, 0, none⟩) (ctL F n) := fun _ => by
  obtain ⟨cur, hg⟩ := own_blk h
  refine ⟨g, 0, rfl, lt_of hg, fun i x hi j u hu => ?_⟩
  have hj : j = 0 := by
    have := (List.getElem?_eq_some_iff.1 hu).1
    simp [Zn] at this
    exact this
  subst hj
  obtain ⟨hin, rfl⟩ := ctL_of hi
  rw [Nat.zero_add, Nat.mul_one, Nat.add_zero, own_cell h i hin, ← hu]
  rfl
theorem posN_all {F : Nat → Nat} (h : ∀ i, 0 < F i) : ∀ n, posN F n = n
  | 0 => rfl
  | n + 1 => by rw [posN, posN_all h n, if_pos (h n)]
theorem need_iff {n M : Nat} (h1 : 1 ≤ M) : needN (n : Int) ≤ M ↔ n ≤ 2 ^ M := by
  refine ⟨need_room, fun h => ?_⟩
  unfold needN
  by_cases h0 : (n : Int) < 1
  · rw [if_pos h0]; omega
  · rw [if_neg h0]
    by_cases h3 : (n : Int) < 3
    · rw [if_pos h3]; omega
    · rw [if_neg h3]
      refine (bl_le _ M).2 ?_
      omega
/-- What holds at the head of a round of PackBest's outer loop. -/
def OutB (w : World) (n : Nat) (C : Nat → Nat) (v6 v7 v8 : Value) (wr : World) : Prop :=
  ∃ (i : Nat) (u6 u7 : Value) (F : Nat → Nat), u6 = v6 ∧ u7 = v7 ∧ v8 = .int .i64 (i : Int) ∧ i ≤ n ∧ wr.ownsRow w.heap.size 3 1 v6 i (ivs i C) ∧ wr.ownsRow w.heap.size 3 1 v7 i (ivs i F) ∧ (v7.ownBlock = none ∨ v7.ownBlock ≠ v6.ownBlock) ∧
    ((List.range i).map F).Perm ((List.range i).map C) ∧ (∀ a b, a < b → b < i → F b ≤ F a) ∧ Below w.heap.size w wr
/-- What holds at the head of a round of its inner loop. -/
def InB (w : World) (i g6 c6 g7 c7 : Nat) (C : Nat → Nat) (v9 : Value) (wr : World) : Prop :=
  ∃ (k : Nat) (F : Nat → Nat), v9 = .int .i64 (k : Int) ∧ k ≤ i ∧ wr.ownsRow w.heap.size 3 1 (.slice (some ⟨g6, 0, none⟩) (i + 1) c6) (i + 1) (ivs (i + 1) C) ∧ wr.ownsRow w.heap.size 3 1 (.slice (some ⟨g7, 0, none⟩) (i + 1) c7) (i + 1) (ivs (i + 1) F) ∧
    ((List.range (i + 1)).map F).Perm ((List.range (i + 1)).map C) ∧ Fall F (i + 1) k ∧ Below w.heap.size w wr
end Go.Proofs.YtciejmlhdmjajaaGreat
namespace Go.Proofs.YtciejmlhdmjajaaGreat
open Go.RowKit
set_option linter.unusedVariables false
set_option linter.unusedSimpArgs false

theorem needN_eq {n k : Nat} (h0 : 1 ≤ n) (hk : 1 ≤ k) (h1 : n ≤ 2 ^ k) (h2 : k = 1 ∨ 2 ^ (k - 1) < n) : needN (n : Int) = k := by
  refine Nat.le_antisymm ((need_iff hk).2 h1) ?_
  rcases h2 with rfl | h2
  · unfold needN
    rw [if_neg (by omega)]
    by_cases h3 : (n : Int) < 3
    · rw [if_pos h3]; exact Nat.le_refl _
    · rw [if_neg h3]
      rcases Nat.eq_zero_or_pos (bl ((n : Int) - 1).toNat) with h | h
      · have := (bl_le ((n : Int) - 1).toNat 0).1 (by omega); omega
      · exact h
  · rcases Nat.lt_or_ge (needN (n : Int)) k with h | h
    · exfalso
      have := need_room (n := n) (k := k - 1) (by omega)
      omega
    · exact h
set_option maxRecDepth 100000 in
set_option maxHeartbeats 1600000 in
theorem refNeeds_any (n : Int) (w : World) (h0 : -9223372036854775808 ≤ n) (h1 : n ≤ 1099511627776) :
    Calls Tryz.prog 73 #[.int .i64 n] w fun e w' => e = .returned (.int .i64 (needN n : Nat)) ∧ w' = w := by
  by_cases ha : n < 1
  · have HE := Lib.hid (show needN n = 0 by unfold needN; rw [if_pos ha])
    go_enter Tryz.func73, Tryz.ntmps73
    go_wp2_with fail
    go_ret
    rw [HE.out]
    exact ⟨rfl, rfl⟩
  · obtain ⟨m, rfl⟩ : ∃ m : Nat, n = (m : Int) := ⟨n.toNat, by omega⟩
    have hm1 : 1 ≤ (m : Int) := by omega
    clear ha h0
    go_enter Tryz.func73, Tryz.ntmps73
    go_wp2_with fail
    go_loop [3, 4] (fun v3 v4 => ∃ k r : Nat, v3 = .int .i64 (k : Int) ∧ v4 = .int .i64 (r : Int) ∧ r = 2 ^ k ∧ 1 ≤ k ∧ (k = 1 ∨ 2 ^ (k - 1) < m)) (fun _ v4 => m - (intOf v4).toNat)
    case atStart => exact ⟨1, 2, rfl, rfl, rfl, Nat.le_refl _, .inl rfl⟩
    case round =>
      obtain ⟨k, r, rfl, rfl, hr, hk1, hk2⟩ := hrel
      have hkb : k ≤ 41 := by
        rcases hk2 with h | h
        · omega
        · rcases Nat.lt_or_ge 41 k with h41 | h41
          · have : 2 ^ 41 ≤ 2 ^ (k - 1) := Nat.pow_le_pow_right (by decide) (by omega)
            omega
          · exact h41
      have hrb : r ≤ 2 ^ 41 := by rw [hr]; exact Nat.pow_le_pow_right (by decide) hkb
      have hrb2 : (r : Int) ≤ 2199023255552 := by omega
      have hkb2 : (k : Int) ≤ 41 := by omega
      have hr0 : 0 < r := by rw [hr]; exact Nat.two_pow_pos _
      obtain ⟨r2, hr2⟩ : ∃ r2, 2 * r = r2 := ⟨_, rfl⟩
      have er2 : (2 : Int) * (r : Int) = (r2 : Int) := by omega
      have hlt2 : r < r2 := by omega
      have HK := Lib.hid (And.intro hr (And.intro hk1 (And.intro hk2 hr2)))
      by_cases hrm : r < m
      · have hrmi : (r : Int) < (m : Int) := by omega
        have hr2b : (r2 : Int) ≤ 4398046511104 := by omega
        clear hr hk1 hk2 hrb hr2 hkb
        go_wp2
        refine ⟨⟨k + 1, r2, by go_num, rfl, ?_, by omega, .inr ?_⟩, by simp [intOf]; omega⟩
        · rw [← HK.out.2.2.2, HK.out.1, Nat.pow_succ]; omega
        · rw [Nat.add_sub_cancel, ← HK.out.1]; exact hrm
      · have hrd : decide (r < m) = false := by simp; omega
        have HE := Lib.hid (show needN (m : Int) = k from needN_eq (by omega) hk1 (by omega) hk2)
        clear hr hk1 hk2 hrb hr2 hkb hrm
        go_wp2
        go_ret
        rw [HE.out]
        exact ⟨rfl, rfl⟩

/-- In rising order, but for what stands at k. -/
def Rise (W F : Nat → Nat) (n k : Nat) : Prop := ∀ a b, a < b → b < n → b ≠ k → ltS W (F a) (F b)
theorem ltS_trans {W : Nat → Nat} {x y z : Nat} (h : ltS W x y) (k : ltS W y z) : ltS W x z := by unfold ltS at *; omega
theorem Rise.step {W F : Nat → Nat} {n k : Nat} (h : Rise W F n k) (hk : 0 < k) (hn : k < n) (hx : W (F k) < W (F (k - 1))) : Rise W (swapF F k (k - 1)) n (k - 1) := by
  intro a b hab hb hne
  simp only [swapF]
  by_cases h1 : b = k
  · subst h1
    rw [if_pos rfl]
    by_cases h2 : a = b - 1
    · subst h2; rw [if_neg (by omega), if_pos rfl]; exact .inl hx
    · rw [if_neg (by omega), if_neg h2]
      exact h a (b - 1) (by omega) (by omega) (by omega)
  · rw [if_neg h1, if_neg hne]
    by_cases h2 : a = k
    · subst h2; rw [if_pos rfl]; exact h (a - 1) b (by omega) hb (by omega)
    · rw [if_neg h2]
      by_cases h3 : a = k - 1
      · subst h3; rw [if_pos rfl]
        have := h (k - 1) b (by omega) hb h1
        unfold ltS at this ⊢
        left; omega
      · rw [if_neg h3]; exact h a b hab hb (by omega)
theorem Rise.done {W F : Nat → Nat} {n k : Nat} (h : Rise W F n k) (hk : k = 0 ∨ ltS W (F (k - 1)) (F k)) : ∀ a b, a < b → b < n → ltS W (F a) (F b) := by
  intro a b hab hb
  by_cases hbk : b = k
  · subst hbk
    rcases hk with hk | hk
    · omega
    · by_cases ha : a = b - 1
      · rw [ha]; exact hk
      · exact ltS_trans (h a (b - 1) (by omega) (by omega) (by omega)) hk
  · exact h a b hab hb hbk
end Go.Proofs.YtciejmlhdmjajaaGreat
namespace Go.Proofs.YtciejmlhdmjajaaGreat
open Go.RowKit
set_option linter.unusedVariables false
set_option linter.unusedSimpArgs false

theorem cntL_take (l : List Int) (j : Nat) (c : Int) (h : l[j]? = some c) : cntL 0 (l.take (j + 1)) = cntL 0 (l.take j) ++ if 0 < c then [(c.toNat, j)] else [] := by
  have hj := (List.getElem?_eq_some_iff.1 h).1
  rw [List.take_add_one, h, Option.toList_some, cntL_append, Nat.zero_add, List.length_take, Nat.min_eq_left (by omega)]
  congr 1
theorem cntL_len_le : ∀ (xs : List Int) (s : Nat), (cntL s xs).length ≤ xs.length
  | [], s => by simp [cntL]
  | c :: xs, s => by
    have := cntL_len_le xs (s + 1)
    rw [cntL]; split <;> simp <;> omega
/-- The symbols that count, as they stand. -/
def sy0 (l : List Int) (k : Nat) : Nat := ((cntL 0 l).getD k (0, 0)).2
def wt0 (l : List Int) (s : Nat) : Nat := (l.getD s 0).toNat
theorem sy0_list (l : List Int) : ivs (cntL 0 l).length (sy0 l) = (cntL 0 l).map fun p => Value.int .i64 (p.2 : Int) := by
  apply List.ext_getElem?
  intro i
  unfold ivs sy0
  by_cases hi : i < (cntL 0 l).length
  · simp [hi]
  · rw [List.getElem?_eq_none (by simp; omega), List.getElem?_eq_none (by simp; omega)]
theorem sy0_up (l : List Int) {a b : Nat} (h : a < b) (hb : b < (cntL 0 l).length) : sy0 l a < sy0 l b := by
  have := List.pairwise_iff_getElem.1 (cntL_up l 0) a b (by omega) hb h
  unfold sy0
  rw [List.getD_eq_getElem?_getD, List.getD_eq_getElem?_getD, List.getElem?_eq_getElem (by omega), List.getElem?_eq_getElem hb]
  exact this
theorem sy0_is (l : List Int) {k : Nat} (h : k < (cntL 0 l).length) : ∃ c, l[sy0 l k]? = some c ∧ 0 < c ∧ (cntL 0 l)[k]? = some (wt0 l (sy0 l k), sy0 l k) := by
  have hm : (cntL 0 l)[k] ∈ cntL 0 l := List.getElem_mem h
  obtain ⟨i, c, h1, h2, h3⟩ := (cntL_mem l 0 _).1 hm
  have e : sy0 l k = i := by
    unfold sy0
    rw [List.getD_eq_getElem?_getD, List.getElem?_eq_getElem h, Option.getD_some, h3, Nat.zero_add]
  refine ⟨c, by rw [e]; exact h1, h2, ?_⟩
  rw [List.getElem?_eq_getElem h, h3, e]
  unfold wt0
  rw [List.getD_eq_getElem?_getD, h1, Option.getD_some, Nat.zero_add]
/-- Sorted symbols are the sorted row's. -/
theorem sy_sorted (l : List Int) (F : Nat → Nat) (n : Nat) (hn : n = (cntL 0 l).length) (hp : ((List.range n).map F).Perm ((List.range n).map (sy0 l))) (hs : ∀ a b, a < b → b < n → ltS (wt0 l) (F a) (F b)) : (List.range n).map (fun k => (wt0 l (F k), F k)) = sortC l := by
  refine sortC_of ?_ ?_
  · have h1 := hp.map fun s => (wt0 l s, s)
    rw [List.map_map, List.map_map] at h1
    refine h1.trans (List.Perm.of_eq ?_)
    subst hn
    apply List.ext_getElem?
    intro i
    by_cases hi : i < (cntL 0 l).length
    · obtain ⟨c, _, _, h3⟩ := sy0_is l hi
      rw [h3, List.getElem?_map, List.getElem?_range hi]; rfl
    · rw [List.getElem?_eq_none (by simp; omega), List.getElem?_eq_none (by omega)]
  · rw [List.pairwise_map]
    refine List.Pairwise.imp_of_mem ?_ List.pairwise_lt_range
    intro i j _ hj hij
    have := hs i j hij (List.mem_range.1 hj)
    unfold ltS at this
    unfold lexB
    simp only [decide_eq_true_eq]
    omega
/-- What holds at the head of a round of the sorting loops. -/
def SymO (w : World) (l : List Int) (n g cap i : Nat) (F : Nat → Nat) (wr : World) : Prop :=
  wr.ownsRow w.heap.size 3 1 (.slice (some ⟨g, 0, none⟩) n cap) n (ivs n F) ∧ ((List.range n).map F).Perm ((List.range n).map (sy0 l)) ∧ (∀ s, i ≤ s → s < n → F s = sy0 l s) ∧ Below w.heap.size w wr
def SymR (w : World) (l : List Int) (n g cap : Nat) (v5 : Value) (wr : World) : Prop :=
  ∃ (i : Nat) (F : Nat → Nat), v5 = .int .i64 (i : Int) ∧ i ≤ n ∧ SymO w l n g cap i F wr ∧ (∀ a b, a < b → b < i → ltS (wt0 l) (F a) (F b)) ∧ ∀ a, a < i → ∃ b, b < i ∧ F a = sy0 l b
def SymI (w : World) (l : List Int) (n g cap i : Nat) (v6 : Value) (wr : World) : Prop :=
  ∃ (k : Nat) (F : Nat → Nat), v6 = .int .i64 (k : Int) ∧ k ≤ i ∧ SymO w l n g cap (i + 1) F wr ∧ Rise (wt0 l) F (i + 1) k ∧ F k = sy0 l i ∧ (∀ a, a < i + 1 → a ≠ k → F a < sy0 l i) ∧ ∀ a, a < i + 1 → ∃ b, b < i + 1 ∧ F a = sy0 l b
end Go.Proofs.YtciejmlhdmjajaaGreat
namespace Go.Proofs.YtciejmlhdmjajaaGreat
open Go.RowKit
set_option linter.unusedVariables false
set_option linter.unusedSimpArgs false

/-- What holds at the head of a round of the loop that collects. -/
def ColR (w : World) (l : List Int) (v3 v4 : Value) (wr : World) : Prop :=
  ∃ (j : Nat) (u3 : Value), u3 = v3 ∧ v4 = .int .i64 (j : Int) ∧ j ≤ l.length ∧ wr.ownsRow w.heap.size 3 1 v3 (cntL 0 (l.take j)).length ((cntL 0 (l.take j)).map fun p => Value.int .i64 (p.2 : Int)) ∧ Below w.heap.size w wr
set_option maxRecDepth 2000000 in
set_option maxHeartbeats 6400000 in
theorem symbols_any (a : Option Addr) (c : Nat) (l : List Int) (w : World) (hs : SlOf (Zn .i64) 1 w a l) (hl : l.length ≤ 320) (hb : ∀ x ∈ l, 0 ≤ x ∧ x ≤ 1073741824) :
    Calls Tryz.prog 72 #[.slice a l.length c] w fun e w' => ∃ v F, e = .returned v ∧ w'.ownsRow w.heap.size 3 1 v (sortC l).length (ivs (sortC l).length F) ∧ (List.range (sortC l).length).map (fun k => (wt0 l (F k), F k)) = sortC l ∧ Below w.heap.size w w' := by
  have hl1 : (l.length : Int) ≤ 320 := by omega
  have HX := Lib.hid (And.intro hs (And.intro hl hb))
  clear hs hl hb
  go_enter Tryz.func72, Tryz.ntmps72
  go_wp2_with fail
  go_loopw [3, 4] (fun v3 v4 wr => ColR w l v3 v4 wr) (fun _ v4 _ => l.length - (intOf v4).toNat)
  case atStart => exact ⟨0, _, rfl, rfl, Nat.zero_le _, by simpa [cntL] using World.ownsRow_nil _ _ _ _, Below.refl _ _⟩
  case round =>
    obtain ⟨j, u3, rfl, rfl, hj, hown, hbel⟩ := hrel
    by_cases hjl : j < l.length
    · have hji : (j : Int) < (l.length : Int) := by omega
      obtain ⟨x, hx⟩ : ∃ x, l[j]? = some x := ⟨l[j], List.getElem?_eq_getElem hjl⟩
      obtain ⟨g1, o1, rfl, hb1, hc1⟩ := HX.out.1 (by intro h; rw [h] at hx; simp at hx)
      have c00 := hc1 j x hx 0 (.int .i64 x) rfl
      rw [Nat.mul_one, Nat.add_zero] at c00
      have c1 : wr.cell? ⟨g1, o1 + j, none⟩ = some (.int .i64 x) := by rw [hbel.cell (p := ⟨g1, o1 + j, none⟩) hb1]; exact c00
      obtain ⟨hx0, hx1⟩ := HX.out.2.2 x (List.mem_of_getElem? hx)
      have hct := cntL_take l j x hx
      have hcl := cntL_len_le (l.take j) 0
      rw [List.length_take] at hcl
      obtain ⟨m, hm⟩ : ∃ m, (cntL 0 (l.take j)).length = m := ⟨_, rfl⟩
      rw [hm] at hown hcl
      have hm320 : m ≤ 320 := by omega
      have hsz := hbel.size
      have HO := Lib.hid hown
      have HB := Lib.hid hbel
      by_cases hpos : 0 < x
      · rw [if_pos hpos] at hct
        have HC := Lib.hid (And.intro hct hm)
        clear hct hm hcl hown hbel hx hc1 c00 hx0
        go_wp2_with (first | (at_builtin; go_must (refine wpList_push w.heap.size w wr rfl (.tmp 19) (.tmp 21) 81 rfl 3 1 8 elemI u3 m _ rfl HO HB hsz #[.int .i64 (j : Int)] 1 1 rfl rfl rfl (by omega) (by omega) (by omega) ?_); intro g5 c5 w5 HQ))
        go_roundw
        case rel =>
          refine ⟨j + 1, _, rfl, by go_num, by omega, ?_, HQ.out.below⟩
          have := HQ.out.own
          rw [HC.out.1, List.length_append, List.map_append, HC.out.2]
          exact this
        case measure => simp [intOf]; omega
      · rw [if_neg hpos, List.append_nil] at hct
        have HC := Lib.hid (And.intro hct hm)
        have hpos' : x ≤ 0 := by omega
        clear hct hm hcl hown hbel hx hc1 c00 hx0 hpos
        go_wp2_with fail
        go_roundw
        case rel => exact ⟨j + 1, _, rfl, by go_num, by omega, by rw [HC.out.1, HC.out.2]; exact HO.out, HB.out⟩
        case measure => simp [intOf]; omega
    · have hje : j = l.length := by omega
      rw [hje, List.take_length] at hown
      obtain ⟨n, hn⟩ : ∃ n, (cntL 0 l).length = n := ⟨_, rfl⟩
      have hnS : (sortC l).length = n := by rw [(sortC_perm l).length_eq, hn]
      have hn320 : n ≤ 320 := by have := cntL_len_le l 0; have := HX.out.2.1; omega
      have hown2 : wr.ownsRow w.heap.size 3 1 u3 n (ivs n (sy0 l)) := by
        have := sy0_list l
        rw [hn] at this
        rw [this, ← hn]; exact hown
      have hjd : decide (j < l.length) = false := by simp; omega
      rcases hown2.2 with ⟨hv, h0⟩ | ⟨g, cap, cur, hv, _⟩
      · subst hv
        subst h0
        have HE := Lib.hid (And.intro hown2 (And.intro hnS (And.intro hbel hn)))
        clear hown hown2 hnS hbel hn
        go_wp2_with fail
        go_loopw [5, 6, 7] (fun v5 _ _ wx => v5 = .int .i64 0 ∧ wx = wr) (fun _ _ _ _ => 0)
        case atStart => exact ⟨rfl, rfl⟩
        case round =>
          obtain ⟨rfl, hw⟩ := hrel
          replace hw := hw.symm
          subst hw
          go_wp2_with fail
          go_ret
          obtain ⟨e1, e2, e3, e4⟩ := HE.out
          rw [e2]
          refine ⟨_, sy0 l, rfl, e1, ?_, e3⟩
          rw [List.eq_nil_of_length_eq_zero e2]; rfl
      · subst hv
        have hni : (n : Int) ≤ 320 := by omega
        have HE := Lib.hid (And.intro hown2 (And.intro hnS (And.intro hbel hn)))
        clear hown hown2 hnS hbel hn
        go_wp2_with fail
        go_loopw [5, 6, 7] (fun v5 _ _ wx => SymR w l n g cap v5 wx) (fun v5 _ _ _ => n - (intOf v5).toNat)
        case atStart => exact ⟨0, sy0 l, rfl, Nat.zero_le _, ⟨HE.out.1, List.Perm.refl _, fun s _ _ => rfl, HE.out.2.2.1⟩, fun a b _ hb => by omega, fun a ha => by omega⟩
        case round =>
          obtain ⟨i, F, rfl, hi, ⟨hown, hperm, hrest, hbel⟩, hsort, hof⟩ := hrel
          by_cases hin : i < n
          · have hii : (i : Int) < (n : Int) := by omega
            have hlen : n = (cntL 0 l).length := HE.out.2.2.2.symm
            have HI := Lib.hid (show SymI w l n g cap i (.int .i64 (i : Int)) _ from ⟨i, F, rfl, Nat.le_refl _, ⟨hown, hperm, fun s h1 h2 => hrest s (by omega) h2, hbel⟩, fun a b hab hb hne => hsort a b hab (by omega), hrest i (Nat.le_refl _) hin, fun a ha hne => by
              obtain ⟨b, hb, e⟩ := hof a (by omega)
              rw [e]; exact sy0_up l hb (by omega), fun a ha => by
              by_cases hai : a = i
              · subst hai; exact ⟨a, by omega, hrest a (Nat.le_refl _) hin⟩
              · obtain ⟨b, hb, e⟩ := hof a (by omega)
                exact ⟨b, by omega, e⟩⟩)
            clear hown hperm hrest hbel hsort hof
            go_wp2_with fail
            go_loopw [6, 7] (fun v6 _ wx => SymI w l n g cap i v6 wx) (fun v6 _ _ => (intOf v6).toNat)
            case atStart => exact HI.out
            case round =>
              clear HI
              obtain ⟨k, F, rfl, hki, ⟨hown, hperm, hrest, hbel⟩, hrise, hFk, hlt, hof⟩ := hrel
              have hkii : (k : Int) ≤ (i : Int) := by omega
              by_cases hk0 : k = 0
              · have hk0i : (k : Int) ≤ 0 := by omega
                have hk0d : decide (0 < (k : Int)) = false := by simp; omega
                have hk0n : decide (0 < k) = false := by simp; omega
                have HF := Lib.hid (And.intro hown (And.intro hperm (And.intro hrest (And.intro hbel (And.intro (hrise.done (.inl hk0)) hof)))))
                clear hown hperm hrest hbel hrise hFk hlt hof hk0
                go_wp2_with fail
                refine wp_region_quiet_tail 19 (by kernel_rfl) (by kernel_rfl) ?_
                simp only [List.take_succ_cons, List.take_zero, List.drop_succ_cons, List.drop_zero]
                repeat go_big_quiet_step (fail)
                refine wpQuiet_nil ?_
                go_wp2_with fail
                go_roundw
                case rel =>
                  obtain ⟨h1, h2, h3, h4, h5, h6⟩ := HF.out
                  exact ⟨i + 1, F, by go_num, by omega, ⟨ownsRow_to h1 (Fr.drew (Fr.refl [] _)) (by simp), h2, h3, (Fr.drew (Fr.refl [] _)).out h4 (by simp)⟩, h5, h6⟩
                case measure => simp [intOf]; omega
              · obtain ⟨k1, hk1⟩ : ∃ k1, k - 1 = k1 := ⟨_, rfl⟩
                have ek1 : (k : Int) - 1 = (k1 : Int) := by omega
                have hk0i : 0 < (k : Int) := by omega
                have hk0n : 0 < k := by omega
                have hk1i : (k1 : Int) < (n : Int) := by omega
                have hki1 : (k : Int) < (n : Int) := by omega
                have d1 := own_cell hown k (by omega)
                have d2 := own_cell hown k1 (by omega)
                obtain ⟨cur', hcur⟩ := own_blk hown
                have fz1 := free_of hcur k
                have fz2 := free_of hcur k1
                have hglt := lt_of hcur
                have hlen : n = (cntL 0 l).length := HE.out.2.2.2.symm
                obtain ⟨b1, hb1, e1⟩ := hof k (by omega)
                obtain ⟨b2, hb2, e2⟩ := hof k1 (by omega)
                obtain ⟨ca, ca1, ca2, _⟩ := sy0_is l (k := b1) (by omega)
                obtain ⟨cb, cb1, cb2, _⟩ := sy0_is l (k := b2) (by omega)
                rw [← e1] at ca1
                rw [← e2] at cb1
                have hltk := hlt k1 (by omega) (by omega)
                obtain ⟨u, hu⟩ : ∃ u, F k = u := ⟨_, rfl⟩
                obtain ⟨v, hv⟩ : ∃ v, F k1 = v := ⟨_, rfl⟩
                rw [hu] at d1 ca1
                rw [hv] at d2 cb1 hltk
                have hul := (List.getElem?_eq_some_iff.1 ca1).1
                have hvl := (List.getElem?_eq_some_iff.1 cb1).1
                have huli : (u : Int) < (l.length : Int) := by omega
                have hvli : (v : Int) < (l.length : Int) := by omega
                obtain ⟨g1, o1, rfl, hgb, hc1⟩ := HX.out.1 (by intro h; rw [h] at ca1; simp at ca1)
                have q1 := hc1 u ca ca1 0 (.int .i64 ca) rfl
                have q2 := hc1 v cb cb1 0 (.int .i64 cb) rfl
                rw [Nat.mul_one, Nat.add_zero] at q1 q2
                have r1 : wr.cell? ⟨g1, o1 + u, none⟩ = some (.int .i64 ca) := by rw [hbel.cell (p := ⟨g1, o1 + u, none⟩) hgb]; exact q1
                have r2 : wr.cell? ⟨g1, o1 + v, none⟩ = some (.int .i64 cb) := by rw [hbel.cell (p := ⟨g1, o1 + v, none⟩) hgb]; exact q2
                have hcab := HX.out.2.2 ca (List.mem_of_getElem? ca1)
                have hcbb := HX.out.2.2 cb (List.mem_of_getElem? cb1)
                obtain ⟨hcab1, hcab2⟩ := hcab
                obtain ⟨hcbb1, hcbb2⟩ := hcbb
                have wu : wt0 l u = ca.toNat := by unfold wt0; rw [List.getD_eq_getElem?_getD, ca1, Option.getD_some]
                have wv : wt0 l v = cb.toNat := by unfold wt0; rw [List.getD_eq_getElem?_getD, cb1, Option.getD_some]
                have hg1b : g1 < w.heap.size := hgb
                have hgg := (hown.lt g rfl).1
                have hgne : g ≠ g1 := by omega
                by_cases hlt2 : ca < cb
                · have hsw1 := own_set (G := fun j => if j = k then v else F j) hown (k := k) (y := v) (fun j _ => rfl)
                  have hsw2 := own_set (G := swapF F k k1) hsw1 (k := k1) (y := u) (fun j _ => by
                    simp only [swapF]
                    by_cases h1 : j = k
                    · rw [if_pos h1, if_neg (by omega), if_pos h1, hv]
                    · rw [if_neg h1, if_neg h1]
                      by_cases h2 : j = k1
                      · rw [if_pos h2, if_pos h2, hu]
                      · rw [if_neg h2, if_neg h2])
                  have hf2 : Fr [g] wr ((wr.setCell ⟨g, k, none⟩ (.int .i64 (v : Int))).setCell ⟨g, k1, none⟩ (.int .i64 (u : Int))) := (Fr.setCell _ _ _ _).trans (Fr.setCell _ _ _ _)
                  have hp2 := (swap_perm n k k1 F (by omega) (by omega)).trans hperm
                  have hrs : Rise (wt0 l) (swapF F k k1) (i + 1) k1 := by rw [← hk1]; exact hrise.step hk0n (by omega) (by rw [hk1, hu, hv, wu, wv]; omega)
                  have hbl2 := hf2.out hbel (fun g' hg => by simp at hg; rw [hg]; exact hgg)
                  have hre : ∀ s, i + 1 ≤ s → s < n → swapF F k k1 s = sy0 l s := fun s h1 h2 => by
                    simp only [swapF]; rw [if_neg (by omega), if_neg (by omega)]; exact hrest s h1 h2
                  have hx2 : swapF F k k1 k1 = sy0 l i := by unfold swapF; rw [if_neg (by omega), if_pos rfl]; exact hFk
                  have hlt3 : ∀ a, a < i + 1 → a ≠ k1 → swapF F k k1 a < sy0 l i := fun a h1 h2 => by
                    simp only [swapF]
                    by_cases h3 : a = k
                    · rw [if_pos h3]; exact hlt k1 (by omega) (by omega)
                    · rw [if_neg h3, if_neg h2]; exact hlt a h1 h3
                  have hof3 : ∀ a, a < i + 1 → ∃ b, b < i + 1 ∧ swapF F k k1 a = sy0 l b := fun a h1 => by
                    simp only [swapF]
                    by_cases h3 : a = k
                    · rw [if_pos h3]; exact hof k1 (by omega)
                    · rw [if_neg h3]
                      by_cases h4 : a = k1
                      · rw [if_pos h4]; exact hof k (by omega)
                      · rw [if_neg h4]; exact hof a h1
                  have HF := Lib.hid (And.intro hsw2 (And.intro hp2 (And.intro hre (And.intro hbl2 (And.intro hrs (And.intro hx2 (And.intro hlt3 hof3)))))))
                  clear hown hperm hrest hbel hrise hFk hlt hof hcur hu hv hsw1 hsw2 hf2 hp2 hrs hbl2 hre hx2 hlt3 hof3 hk0 hc1 q1 q2 wu wv ca1 cb1 e1 e2 hb1 hb2
                  go_wp2_with fail
                  refine wp_region_quiet_tail 19 (by kernel_rfl) (by kernel_rfl) ?_
                  simp only [List.take_succ_cons, List.take_zero, List.drop_succ_cons, List.drop_zero]
                  repeat go_big_quiet_step (fail)
                  refine wpQuiet_nil ?_
                  go_wp2_with fail
                  obtain ⟨h1, h2, h3, h4, h5, h6, h7, h8⟩ := HF.out
                  exact ⟨⟨k1, _, rfl, by omega, ⟨ownsRow_to h1 (Fr.drew (Fr.refl [] _)) (by simp), h2, h3, (Fr.drew (Fr.refl [] _)).out h4 (by simp)⟩, h5, h6, h7, h8⟩, by simp [intOf]; omega⟩
                · have hltd : decide (ca < cb) = false := by simp; omega
                  have hle : cb ≤ ca := by omega
                  have hfin := hrise.done (.inr (by
                    rw [hk1, hu, hv]
                    unfold ltS
                    rw [wu, wv]
                    rw [← hFk, hu] at hltk
                    omega))
                  have HF := Lib.hid (And.intro hown (And.intro hperm (And.intro hrest (And.intro hbel (And.intro hfin hof)))))
                  clear hown hperm hrest hbel hrise hFk hlt hof hcur hu hv hfin hk0 hc1 q1 q2 wu wv ca1 cb1 e1 e2 hb1 hb2 hlt2
                  go_wp2_with fail
                  refine wp_region_quiet_tail 19 (by kernel_rfl) (by kernel_rfl) ?_
                  simp only [List.take_succ_cons, List.take_zero, List.drop_succ_cons, List.drop_zero]
                  repeat go_big_quiet_step (fail)
                  refine wpQuiet_nil ?_
                  go_wp2_with fail
                  go_roundw
                  case rel =>
                    obtain ⟨h1, h2, h3, h4, h5, h6⟩ := HF.out
                    exact ⟨i + 1, F, by go_num, by omega, ⟨ownsRow_to h1 (Fr.drew (Fr.refl [] _)) (by simp), h2, h3, (Fr.drew (Fr.refl [] _)).out h4 (by simp)⟩, h5, h6⟩
                  case measure => simp [intOf]; omega
          · have hie : i = n := by omega
            have hid : decide (i < n) = false := by simp; omega
            have HF := Lib.hid (And.intro hown (And.intro hperm (And.intro hbel hsort)))
            clear hown hperm hrest hbel hsort hof
            go_wp2_with fail
            go_ret
            obtain ⟨h1, h2, h3, h4⟩ := HF.out
            obtain ⟨e1, e2, e3, e4⟩ := HE.out
            rw [e2]
            exact ⟨_, F, rfl, h1, sy_sorted l F n e4.symm h2 (by rw [← hie]; exact h4), h3⟩
end Go.Proofs.YtciejmlhdmjajaaGreat
namespace Go.Proofs.YtciejmlhdmjajaaGreat
open Go.RowKit
set_option linter.unusedVariables false
set_option linter.unusedSimpArgs false

/-- A reference's thing, as a value. -/
def rv (wg g n : Nat) : Value := .agg #[.int .i64 (wg : Int), .slice (some ⟨g, 0, none⟩) n n]
set_option maxRecDepth 2000000 in
set_option maxHeartbeats 3200000 in
theorem leaf_any (wg k n : Nat) (w : World) (hw : wg ≤ 1073741824) (hk : k < n) (hn : n ≤ 320) :
    Calls Tryz.prog 74 #[.int .i64 (wg : Int), .int .i64 (k : Int), .int .i64 (n : Int)] w fun e w' => ∃ g, e = .returned (rv wg g n) ∧ w.heap.size ≤ g ∧ Nrow w' g 5 .u8 n (fun i => if i = k then 1 else 0) ∧ Fr [] w w' := by
  have h1 : (wg : Int) ≤ 1073741824 := by omega
  have h2 : (k : Int) < (n : Int) := by omega
  have h3 : (n : Int) ≤ 320 := by omega
  have hmk := fun W => run_make_bytes W n (by omega)
  have sz1 : (w.alloc (.cells #[.int .i64 0, .slice none 0 0] 136)).heap.size = w.heap.size + 1 := Array.size_push _
  have hA := Fr.alloc [] ((w.alloc (.cells #[.int .i64 0, .slice none 0 0] 136)).alloc (.cells (Lib.byteCells (List.replicate n 0)).toArray 5)) (.cells #[.int .i64 (wg : Int), .slice (some ⟨w.heap.size + 1, 0, none⟩) n n] 136)
  have hM := made_row (w.alloc (.cells #[.int .i64 0, .slice none 0 0] 136)) n
  rw [sz1] at hM
  have hN := hM.to hA (by simp)
  have d0 := hN.cell k hk
  have fz := free_of hN k
  have hO := made_one (w.alloc (.cells #[.int .i64 (wg : Int), .slice (some ⟨w.heap.size + 1, 0, none⟩) n n] 136)) n k
  rw [show (w.alloc (.cells #[.int .i64 (wg : Int), .slice (some ⟨w.heap.size + 1, 0, none⟩) n n] 136)).heap.size = w.heap.size + 1 from Array.size_push _] at hO
  have hO2 := hO.to (Fr.alloc [] _ (.cells #[.int .i64 (wg : Int), .slice (some ⟨w.heap.size + 1, 0, none⟩) n n] 136)) (by simp)
  have HO := Lib.hid hO2
  clear hw hn hA hM hN hO hO2 sz1
  go_enter Tryz.func74, Tryz.ntmps74
  go_wp2_with fail
  refine bodyPost_ret (v := rv wg (w.heap.size + 1) n) (by simp [results, Tryz.results74, go_sem, rv]) rfl ⟨w.heap.size + 1, rfl, by omega, HO.out, ((Fr.alloc [] _ _).trans (Fr.alloc [] _ _)).trans (Fr.alloc [] _ _)⟩
/-- The sum of two rows of numbers of a byte each. -/
def addV (A B : Nat → Nat) (i : Nat) : Nat := (A i + B i) % 256
/-- Behind the first statement: the new thing, its row of noughts. -/
def BothM (W3 : World) (wz n : Nat) (v5 : Value) (wx : World) : Prop :=
  ∃ gv gt, v5 = .pointer (some ⟨gt, 0, none⟩) ∧ wx.heap[gt]? = some (.cells #[.int .i64 (wz : Int), .slice (some ⟨gv, 0, none⟩) n n] 136 (0, 0)) ∧ Nrow wx gv 5 .u8 n (fun _ => 0) ∧ W3.heap.size ≤ gv ∧ W3.heap.size ≤ gt ∧ gt ≠ gv ∧ Fr [] W3 wx
theorem bothM_a (W3 : World) (wz n : Nat) : BothM W3 wz n (.pointer (some ⟨W3.heap.size + 1, 0, none⟩)) ((W3.alloc (.cells (Lib.byteCells (List.replicate n 0)).toArray 5)).alloc (.cells #[.int .i64 (wz : Int), .slice (some ⟨W3.heap.size, 0, none⟩) n n] 136)).drew := by
  have h1 := (made_row W3 n).to (Fr.alloc [] _ (.cells #[.int .i64 (wz : Int), .slice (some ⟨W3.heap.size, 0, none⟩) n n] 136)) (by simp)
  have h2 := new_of (W3.alloc (.cells (Lib.byteCells (List.replicate n 0)).toArray 5)) (.cells #[.int .i64 (wz : Int), .slice (some ⟨W3.heap.size, 0, none⟩) n n] 136)
  rw [show (W3.alloc (.cells (Lib.byteCells (List.replicate n 0)).toArray 5)).heap.size = W3.heap.size + 1 from Array.size_push _] at h2
  exact ⟨W3.heap.size, W3.heap.size + 1, rfl, h2, h1.to (l := []) (Fr.drew (Fr.refl [] _)) (by simp), by omega, by omega, by omega, ((Fr.alloc [] _ _).trans (Fr.alloc [] _ _)).drew⟩
theorem bothM_b (W3 : World) (wz n : Nat) : BothM W3 wz n (.pointer (some ⟨W3.heap.size, 0, none⟩)) ((W3.alloc (.cells #[.int .i64 (wz : Int), .slice (some ⟨W3.heap.size + 1, 0, none⟩) n n] 136)).alloc (.cells (Lib.byteCells (List.replicate n 0)).toArray 5)).drew := by
  have h1 := made_row (W3.alloc (.cells #[.int .i64 (wz : Int), .slice (some ⟨W3.heap.size + 1, 0, none⟩) n n] 136)) n
  rw [show (W3.alloc (.cells #[.int .i64 (wz : Int), .slice (some ⟨W3.heap.size + 1, 0, none⟩) n n] 136)).heap.size = W3.heap.size + 1 from Array.size_push _] at h1
  have h2 := (Fr.alloc [] _ (.cells (Lib.byteCells (List.replicate n 0)).toArray 5)).drew.blk (new_of W3 (.cells #[.int .i64 (wz : Int), .slice (some ⟨W3.heap.size + 1, 0, none⟩) n n] 136)) (by simp)
  exact ⟨W3.heap.size + 1, W3.heap.size, rfl, h2, h1.to (l := []) (Fr.drew (Fr.refl [] _)) (by simp), by omega, by omega, by omega, ((Fr.alloc [] _ _).trans (Fr.alloc [] _ _)).drew⟩
set_option maxRecDepth 2000000 in
set_option maxHeartbeats 3200000 in
theorem both_any (wa ga wb gb n : Nat) (A B : Nat → Nat) (w : World) (hw : wa + wb ≤ 100000000000000) (hn : n ≤ 320) (hA : Nrow w ga 5 .u8 n A) (hB : Nrow w gb 5 .u8 n B) (hAb : ∀ i, i < n → A i ≤ 255) (hBb : ∀ i, i < n → B i ≤ 255) :
    Calls Tryz.prog 98 #[rv wa ga n, rv wb gb n] w fun e w' => ∃ g, e = .returned (rv (wa + wb) g n) ∧ w.heap.size ≤ g ∧ Nrow w' g 5 .u8 n (addV A B) ∧ Fr [] w w' := by
  obtain ⟨wz, hz⟩ : ∃ wz, wa + wb = wz := ⟨_, rfl⟩
  have ez : (wa : Int) + (wb : Int) = (wz : Int) := by omega
  have h1 : (wz : Int) ≤ 100000000000000 := by omega
  have h3 : (n : Int) ≤ 320 := by omega
  have hwz : IntKind.i64.wrap (wz : Int) = (wz : Int) := IntWalk.i64_in _ (by omega)
  have hmk := fun W => run_make_bytes W n (by omega)
  rw [hz]
  have HX := Lib.hid (And.intro hA (And.intro hB (And.intro hAb hBb)))
  have hga := lt_of hA
  have hgb := lt_of hB
  clear hz hw hn hA hB hAb hBb
  unfold rv
  go_enter Tryz.func98, Tryz.ntmps98
  go_wp2_with fail
  obtain ⟨W3, hW3⟩ : ∃ W3, ((w.alloc (.cells #[.int .i64 (wa : Int), .slice (some ⟨ga, 0, none⟩) n n] 136)).alloc (.cells #[.int .i64 (wb : Int), .slice (some ⟨gb, 0, none⟩) n n] 136)).alloc (.cells #[.int .i64 0, .slice none 0 0] 136) = W3 := ⟨_, rfl⟩
  rw [hW3]
  have hF : Fr [] w W3 := by rw [← hW3]; exact ((Fr.alloc [] _ _).trans (Fr.alloc [] _ _)).trans (Fr.alloc [] _ _)
  have sz3 : W3.heap.size = w.heap.size + 3 := by rw [← hW3]; simp
  have kA : W3.heap[w.heap.size]? = some (.cells #[.int .i64 (wa : Int), .slice (some ⟨ga, 0, none⟩) n n] 136) := by rw [← hW3]; exact ((Fr.alloc [] _ _).trans (Fr.alloc [] _ _)).blk (new_of w _) (by simp)
  have kB : W3.heap[w.heap.size + 1]? = some (.cells #[.int .i64 (wb : Int), .slice (some ⟨gb, 0, none⟩) n n] 136) := by
    rw [← hW3]
    have := new_of (w.alloc (.cells #[.int .i64 (wa : Int), .slice (some ⟨ga, 0, none⟩) n n] 136)) (.cells #[.int .i64 (wb : Int), .slice (some ⟨gb, 0, none⟩) n n] 136)
    rw [show (w.alloc (.cells #[.int .i64 (wa : Int), .slice (some ⟨ga, 0, none⟩) n n] 136)).heap.size = w.heap.size + 1 from Array.size_push _] at this
    exact (Fr.alloc [] _ _).blk this (by simp)
  have kZ : W3.heap[w.heap.size + 2]? = some (.cells #[.int .i64 0, .slice none 0 0] 136) := by
    rw [← hW3]
    have := new_of ((w.alloc (.cells #[.int .i64 (wa : Int), .slice (some ⟨ga, 0, none⟩) n n] 136)).alloc (.cells #[.int .i64 (wb : Int), .slice (some ⟨gb, 0, none⟩) n n] 136)) (.cells #[.int .i64 0, .slice none 0 0] 136)
    rw [show ((w.alloc (.cells #[.int .i64 (wa : Int), .slice (some ⟨ga, 0, none⟩) n n] 136)).alloc (.cells #[.int .i64 (wb : Int), .slice (some ⟨gb, 0, none⟩) n n] 136)).heap.size = w.heap.size + 2 by simp] at this
    exact this
  have c0 := cell_of kA 0
  have c1 := cell_of kA 1
  have c2 := cell_of kB 0
  simp at c0 c1 c2
  have HK := Lib.hid (And.intro hF (And.intro sz3 (And.intro kA (And.intro kB kZ))))
  clear hW3 hF sz3 kA kB kZ
  have n0 := World.new_ne W3 _ c0
  have n1 := World.new_ne W3 _ c1
  have n2 := World.new_ne W3 _ c2
  go_cut [5] from 7 to 16 (fun v5 wx => BothM W3 wz n v5 wx)
  case first =>
    go_region_held3 (fun w' => w'.cell? ⟨w.heap.size, 0, none⟩ = some (.int .i64 (wa : Int)) ∧ w'.cell? ⟨w.heap.size + 1, 0, none⟩ = some (.int .i64 (wb : Int)) ∧ w'.cell? ⟨w.heap.size, 1, none⟩ = some (.slice (some ⟨ga, 0, none⟩) n n)) (go_keep) (fail)
    all_goals go_wp2_with fail
    all_goals go_meet
    case rel => exact bothM_a W3 wz n
    case rel => exact bothM_b W3 wz n
  case rest =>
  obtain ⟨gv, gt, rfl, hgt, hNv, hgv3, hgt3, hne, hfc⟩ := hcut
  have HC := Lib.hid (And.intro hgt (And.intro hNv (And.intro hgv3 (And.intro hgt3 (And.intro hne hfc)))))
  clear hgt hNv hgv3 hgt3 hne hfc n0 n1 n2 c0 c1 c2 hmk
  go_wp2_with fail
  go_loopw [6] (fun v6 wr => ∃ i : Nat, v6 = .int .i64 (i : Int) ∧ i ≤ n ∧ Hid (Nrow wr gv 5 .u8 n (fun s => if s < i then addV A B s else 0)) ∧ Fr [gv] wc wr) (fun v6 _ => n - (intOf v6).toNat)
  case atStart => exact ⟨0, rfl, Nat.zero_le _, Lib.hid (HC.out.2.1.congr fun s _ => by simp), Fr.refl _ _⟩
  case round =>
    obtain ⟨i, rfl, hi, hN, hf⟩ := hrel
    have hgw : w.heap.size + 3 ≤ gv := by have := HC.out.2.2.1; have := HK.out.2.1; omega
    have bA := hf.blk (HC.out.2.2.2.2.2.blk HK.out.2.2.1 (by simp)) (by simp; omega)
    have bB := hf.blk (HC.out.2.2.2.2.2.blk HK.out.2.2.2.1 (by simp)) (by simp; omega)
    have bT := hf.blk HC.out.1 (by simpa using HC.out.2.2.2.2.1)
    have c1 := cell_of bA 1
    have c2 := cell_of bB 1
    have c3 := cell_of bT 1
    simp at c1 c2 c3
    by_cases hin : i < n
    · have hii : (i : Int) < (n : Int) := by omega
      have rA := ((HX.out.1.to (HK.out.1.trans HC.out.2.2.2.2.2) (by simp)).to hf (by simp; omega)).cell i hin
      have rB := ((HX.out.2.1.to (HK.out.1.trans HC.out.2.2.2.2.2) (by simp)).to hf (by simp; omega)).cell i hin
      have rV := hN.out.cell i hin
      have fz := free_of hN.out i
      have hglt := lt_of hN.out
      simp only [Nat.lt_irrefl, if_false] at rV
      obtain ⟨x, hx⟩ : ∃ x, A i = x := ⟨_, rfl⟩
      obtain ⟨y, hy⟩ : ∃ y, B i = y := ⟨_, rfl⟩
      obtain ⟨z, hz⟩ : ∃ z, (x + y) % 256 = z := ⟨_, rfl⟩
      have hxb : (x : Int) ≤ 255 := by have := HX.out.2.2.1 i hin; omega
      have hyb : (y : Int) ≤ 255 := by have := HX.out.2.2.2 i hin; omega
      rw [hx] at rA
      rw [hy] at rB
      have e1 : ((x : Int) + (y : Int)) % 256 = (z : Int) := by omega
      have hset := hN.out.set_ (G := fun s => if s < i + 1 then addV A B s else 0) i z (fun s _ => by
        by_cases h : s = i
        · subst h; simp [addV, hx, hy, hz]
        · simp only [if_neg h]
          by_cases h2 : s < i
          · rw [if_pos h2, if_pos (by omega)]
          · rw [if_neg h2, if_neg (by omega)])
      have HS := Lib.hid (And.intro hset hf)
      clear hset hf hN hx hy hz bA bB bT
      go_wp2_with fail
      refine wp_region_quiet_tail 15 (by kernel_rfl) (by kernel_rfl) ?_
      simp only [List.take_succ_cons, List.take_zero, List.drop_succ_cons, List.drop_zero]
      repeat go_big_quiet_step (fail)
      refine wpQuiet_nil ?_
      go_wp2_with fail
      exact ⟨⟨i + 1, by go_num, by omega, Lib.hid (HS.out.1.to (l := []) (Fr.drew (Fr.refl [] _)) (by simp)), HS.out.2.trans (Fr.drew (Fr.setCell _ _ _ _))⟩, by simp [intOf]; omega⟩
    · have hie : i = n := by omega
      have hid : decide (i < n) = false := by simp; omega
      have bZ := hf.blk (HC.out.2.2.2.2.2.blk HK.out.2.2.2.2 (by simp)) (by simp; omega)
      have c4 := cell_of bT 0
      have z0 := cell_of bZ 0
      have z1 := cell_of bZ 1
      have fz0 := free_of bZ 0
      have fz1 := free_of bZ 1
      have hzlt := lt_of bZ
      have hgtz : gt ≠ w.heap.size + 2 := by have := HC.out.2.2.2.1; have := HK.out.2.1; omega
      have hset := set_of (set_of bZ 0 (.int .i64 (wz : Int))) 1 (.slice (some ⟨gv, 0, none⟩) n n)
      have r0 := cell_of hset 0
      have r1 := cell_of hset 1
      have HF := Lib.hid (And.intro hN (And.intro hf hie))
      simp at c4 z0 z1 r0 r1
      have R0 := Lib.hid r0
      have R1 := Lib.hid r1
      clear bA bB bZ hset hN hf hie hi
      clear r0 r1
      go_wp2_with fail
      have q0 : ((wr.setCell ⟨w.heap.size + 1 + 1, 0, none⟩ (.int .i64 (wz : Int))).setCell ⟨w.heap.size + 1 + 1, 1, none⟩ (.slice (some ⟨gv, 0, none⟩) n n)).cell? ⟨w.heap.size + 1 + 1, 0, none⟩ = some (.int .i64 (wz : Int)) := R0.out
      have q1 : ((wr.setCell ⟨w.heap.size + 1 + 1, 0, none⟩ (.int .i64 (wz : Int))).setCell ⟨w.heap.size + 1 + 1, 1, none⟩ (.slice (some ⟨gv, 0, none⟩) n n)).cell? ⟨w.heap.size + 1 + 1, 1, none⟩ = some (.slice (some ⟨gv, 0, none⟩) n n) := R1.out
      obtain ⟨hN, hf, hie⟩ := HF.out
      have hsz := HC.out.2.2.2.2.2.size
      have hgw2 := HC.out.2.2.1
      have hsz3 := HK.out.2.1
      refine bodyPost_ret (v := rv wz gv n) (by simp [results, Tryz.results98, go_sem, q0, q1, rv]) rfl ⟨gv, rfl, by omega, ?_, ?_⟩
      · refine (((hN.out.congr fun s hs => ?_).to (Fr.setCell wr _ 0 _) ?_).to (Fr.setCell _ _ 1 _) ?_)
        · rw [if_pos (by omega)]
        · simp; omega
        · simp; omega
      · have hG := (hf.outL (HK.out.1.trans HC.out.2.2.2.2.2) (fun j hj => .inr (by simp at hj; omega)) : Fr [] w wr)
        exact ((Fr.setCell wr (w.heap.size + 1 + 1) 0 _).trans (Fr.setCell _ _ 1 _)).outL hG (fun j hj => .inr (by simp at hj; omega))
end Go.Proofs.YtciejmlhdmjajaaGreat
namespace Go.Proofs.YtciejmlhdmjajaaGreat
open Go.RowKit
set_option linter.unusedVariables false
set_option linter.unusedSimpArgs false

theorem elemV : Elem Tryz.prog 134 136 2 32 := by
  refine ⟨Tryz.underlying134, ?_⟩
  obtain ⟨i0, hi, hz0, hz1, hz2⟩ := info_parts (show (Tryz.prog.info? 136).map (fun i => (i.zero, i.size, i.bytes)) = some (some (.agg #[.int .i64 0, .slice none 0 0]), 2, 32) by kernel_rfl)
  exact ⟨i0, _, hi, hz0, hz1, hz2, rfl, by decide⟩
def Tv (wg g n : Nat) : List Value := [.int .i64 (wg : Int), .slice (some ⟨g, 0, none⟩) n n]
/-- How often each leaf is in a thing. -/
def vecP (sy : Nat → Nat) (p : PT) (i : Nat) : Nat := occ p (sy i) % 256
theorem vecP_node (sy : Nat → Nat) (a b : PT) : vecP sy (.node a b) = addV (vecP sy a) (vecP sy b) := by
  funext i
  unfold vecP addV
  simp only [occ]
  exact Nat.add_mod _ _ _
theorem vecP_le (sy : Nat → Nat) (p : PT) (i : Nat) : vecP sy p i ≤ 255 := by unfold vecP; omega
def d0 : Nat × PT := (0, .leaf 0)
def rowCells (n : Nat) (R : List (Nat × PT)) (G : Nat → Nat) : List Value := (List.range R.length).flatMap fun k => Tv (R.getD k d0).1 (G k) n
/-- A row of the reference's things, a call's own. -/
def Vrow (w : World) (B : Nat) (v : Value) (n : Nat) (sy : Nat → Nat) (R : List (Nat × PT)) : Prop :=
  ∃ G : Nat → Nat, w.ownsRow B 136 2 v R.length (rowCells n R G) ∧ ∀ k, k < R.length → Nrow w (G k) 5 .u8 n (vecP sy (R.getD k d0).2)
theorem Vrow.nil (w : World) (B n : Nat) (sy : Nat → Nat) : Vrow w B (.slice none 0 0) n sy [] := ⟨fun _ => 0, World.ownsRow_nil _ _ _ _, fun k hk => by simp at hk⟩
theorem vecs_grown {w w' : World} {B : Nat} {v : Value} {n : Nat} {xs : List Value} (h : w.ownsRow B 136 2 v n xs) (hg : w.grownBy w' v.ownBlock) {g N : Nat} {F : Nat → Nat} (hc : Nrow w g 5 .u8 N F) : Nrow w' g 5 .u8 N F := by
  have hc' := hc
  unfold Nrow at hc ⊢
  rw [hg.block g (lt_of hc) ?_, hc]
  intro he
  rcases h.2 with ⟨rfl, _⟩ | ⟨g', cap, cur, rfl, hb, hh, _⟩
  · simp [Value.ownBlock] at he
  · simp [Value.ownBlock] at he
    subst he
    rw [hc] at hh
    simp at hh
theorem Vrow.to {w w' : World} {B : Nat} {v : Value} {n : Nat} {sy : Nat → Nat} {R : List (Nat × PT)} (h : Vrow w B v n sy R) (f : Fr [] w w') : Vrow w' B v n sy R := by
  obtain ⟨G, h1, h2⟩ := h
  exact ⟨G, ownsRow_to h1 f (by simp), fun k hk => (h2 k hk).to f (by simp)⟩
/-- Another row of things is appended to. -/
theorem Vrow.grow {w w' : World} {B B' : Nat} {v v' : Value} {n m : Nat} {sy : Nat → Nat} {R : List (Nat × PT)} {xs : List Value} (h : Vrow w B v n sy R) (h' : w.ownsRow B' 136 2 v' m xs) (hg : w.grownBy w' v'.ownBlock) (hne : v.ownBlock = none ∨ v.ownBlock ≠ v'.ownBlock) : Vrow w' B v n sy R := by
  obtain ⟨G, h1, h2⟩ := h
  exact ⟨G, h1.kept hg hne, fun k hk => vecs_grown h' hg (h2 k hk)⟩
theorem rowCells_snoc (n : Nat) (R : List (Nat × PT)) (x : Nat × PT) (G : Nat → Nat) (g : Nat) : rowCells n (R ++ [x]) (fun k => if k = R.length then g else G k) = rowCells n R G ++ Tv x.1 g n := by
  unfold rowCells
  rw [List.length_append, List.length_cons, List.length_nil, Nat.zero_add, List.range_succ, List.flatMap_append]
  congr 1
  · have : ∀ l : List Nat, (∀ k ∈ l, k < R.length) → l.flatMap (fun k => Tv ((R ++ [x]).getD k d0).1 (if k = R.length then g else G k) n) = l.flatMap fun k => Tv (R.getD k d0).1 (G k) n := by
      intro l
      induction l with
      | nil => intro _; rfl
      | cons k l ih =>
        intro h
        have hk := h k (by simp)
        rw [List.flatMap_cons, List.flatMap_cons, ih (fun j hj => h j (by simp [hj])), if_neg (by omega)]
        congr 2
        rw [List.getD_eq_getElem?_getD, List.getElem?_append_left hk, ← List.getD_eq_getElem?_getD]
    exact this _ fun k hk => List.mem_range.1 hk
  · simp [List.getD_eq_getElem?_getD]
theorem Vrow.snoc {w : World} {B : Nat} {v : Value} {n g : Nat} {sy : Nat → Nat} {R : List (Nat × PT)} {x : Nat × PT} {G : Nat → Nat} (h1 : w.ownsRow B 136 2 v (R.length + 1) (rowCells n R G ++ Tv x.1 g n)) (h2 : ∀ k, k < R.length → Nrow w (G k) 5 .u8 n (vecP sy (R.getD k d0).2)) (h3 : Nrow w g 5 .u8 n (vecP sy x.2)) : Vrow w B v n sy (R ++ [x]) := by
  refine ⟨fun k => if k = R.length then g else G k, ?_, fun k hk => ?_⟩
  · rw [rowCells_snoc, List.length_append]; exact h1
  · simp only
    rw [List.length_append, List.length_cons, List.length_nil] at hk
    by_cases e : k = R.length
    · rw [if_pos e, e]
      simpa [List.getD_eq_getElem?_getD] using h3
    · rw [if_neg e]
      have := h2 k (by omega)
      rw [List.getD_eq_getElem?_getD, List.getElem?_append_left (by omega), ← List.getD_eq_getElem?_getD]
      exact this
theorem rowCells_get {n : Nat} {R : List (Nat × PT)} {G : Nat → Nat} {k j : Nat} (hk : k < R.length) (hj : j < 2) : (rowCells n R G)[k * 2 + j]? = (Tv (R.getD k d0).1 (G k) n)[j]? := by
  unfold rowCells
  obtain ⟨u, hu⟩ : ∃ u, (Tv (R.getD k d0).1 (G k) n)[j]? = some u := ⟨(Tv (R.getD k d0).1 (G k) n)[j]'(by simpa [Tv] using hj), List.getElem?_eq_getElem _⟩
  rw [hu]
  exact flatMap_get (enc := fun k => Tv (R.getD k d0).1 (G k) n) (sz := 2) (l := List.range R.length) (x := k) (fun x => rfl) (List.getElem?_range hk) hj hu
theorem vrow_cell {w : World} {B g cap n : Nat} {R : List (Nat × PT)} {G : Nat → Nat} (h : w.ownsRow B 136 2 (.slice (some ⟨g, 0, none⟩) R.length cap) R.length (rowCells n R G)) (k : Nat) (hk : k < R.length) :
    w.cell? ⟨g, k * 2, none⟩ = some (.int .i64 ((R.getD k d0).1 : Int)) ∧ w.cell? ⟨g, k * 2 + 1, none⟩ = some (.slice (some ⟨G k, 0, none⟩) n n) := by
  have h0 := h.cells (g := g) rfl (k * 2 + 0) _ (rowCells_get hk (by omega))
  have h1 := h.cells (g := g) rfl (k * 2 + 1) _ (rowCells_get hk (by omega))
  rw [add_none, Nat.zero_add] at h0 h1
  exact ⟨h0, h1⟩
theorem vown_lt {w : World} {B g cap n : Nat} {xs : List Value} (h : w.ownsRow B 136 2 (.slice (some ⟨g, 0, none⟩) n cap) n xs) : g < w.heap.size := (h.lt g rfl).2
end Go.Proofs.YtciejmlhdmjajaaGreat
namespace Go.Proofs.YtciejmlhdmjajaaGreat
open Go.RowKit
set_option linter.unusedVariables false
set_option linter.unusedSimpArgs false

/-- Four cells: two things' weights and rows. -/
def Four (g p q xw gx yw gy n : Nat) (w : World) : Prop :=
  w.cell? ⟨g, p * 2, none⟩ = some (.int .i64 (xw : Int)) ∧ w.cell? ⟨g, p * 2 + 1, none⟩ = some (.slice (some ⟨gx, 0, none⟩) n n) ∧ w.cell? ⟨g, q * 2, none⟩ = some (.int .i64 (yw : Int)) ∧ w.cell? ⟨g, q * 2 + 1, none⟩ = some (.slice (some ⟨gy, 0, none⟩) n n)
theorem Four.to {g p q xw gx yw gy n : Nat} {w w' : World} (h : Hid (g < w.heap.size ∧ Four g p q xw gx yw gy n w)) (b : Below w.heap.size w w') : Four g p q xw gx yw gy n w' := by
  obtain ⟨h0, h1, h2, h3, h4⟩ := h.out
  unfold Four
  rw [b.cell (p := ⟨g, p * 2, none⟩) h0, b.cell (p := ⟨g, p * 2 + 1, none⟩) h0, b.cell (p := ⟨g, q * 2, none⟩) h0, b.cell (p := ⟨g, q * 2 + 1, none⟩) h0]
  exact ⟨h1, h2, h3, h4⟩
/-- What holds at the head of a round of the first loop: m packages are made. -/
def NextA (w : World) (n : Nat) (sy : Nat → Nat) (R : List (Nat × PT)) (v5 v7 : Value) (wr : World) : Prop :=
  ∃ (m : Nat) (u5 : Value), u5 = v5 ∧ v7 = .int .i64 ((2 * m : Nat) : Int) ∧ 2 * m ≤ R.length ∧ Vrow wr w.heap.size v5 n sy ((prs PT.node R).take m) ∧ Below w.heap.size w wr
/-- What holds at the head of a round of the second loop: i leaves and k packages are taken. -/
def NextB (w wo : World) (n : Nat) (sy : Nat → Nat) (LL P : List (Nat × PT)) (g5 : Nat) (v6 v8 v9 : Value) (wr : World) : Prop :=
  ∃ (i k : Nat) (u6 : Value) (O : List (Nat × PT)), u6 = v6 ∧ v8 = .int .i64 (i : Int) ∧ v9 = .int .i64 (k : Int) ∧ i ≤ LL.length ∧ k ≤ P.length ∧ O.length = i + k ∧ mrg LL P = O ++ mrg (LL.drop i) (P.drop k) ∧ Vrow wr w.heap.size v6 n sy O ∧ v6.ownBlock ≠ some g5 ∧ (∀ b, v6.ownBlock = some b → wo.heap.size ≤ b) ∧ Fr [] wo wr
theorem mrg_fst {LL P : List (Nat × PT)} {i k : Nat} {x : Nat × PT} (hx : LL[i]? = some x) (h : P.length ≤ k ∨ ∃ y, P[k]? = some y ∧ x.1 ≤ y.1) : mrg (LL.drop i) (P.drop k) = x :: mrg (LL.drop (i + 1)) (P.drop k) := by
  obtain ⟨hi, he⟩ := List.getElem?_eq_some_iff.1 hx
  rw [List.drop_eq_getElem_cons hi, he]
  rcases h with h | ⟨y, hy, hxy⟩
  · rw [List.drop_eq_nil_of_le h, mrg_right, mrg_right]
  · obtain ⟨hk, hk2⟩ := List.getElem?_eq_some_iff.1 hy
    rw [List.drop_eq_getElem_cons hk, hk2, mrg_cons, if_pos hxy]
theorem mrg_snd {LL P : List (Nat × PT)} {i k : Nat} {y : Nat × PT} (hy : P[k]? = some y) (h : LL.length ≤ i ∨ ∃ x, LL[i]? = some x ∧ ¬ x.1 ≤ y.1) : mrg (LL.drop i) (P.drop k) = y :: mrg (LL.drop i) (P.drop (k + 1)) := by
  obtain ⟨hk, he⟩ := List.getElem?_eq_some_iff.1 hy
  rw [List.drop_eq_getElem_cons hk, he]
  rcases h with h | ⟨x, hx, hxy⟩
  · rw [List.drop_eq_nil_of_le h, mrg_nil, mrg_nil]
  · obtain ⟨hi, hi2⟩ := List.getElem?_eq_some_iff.1 hx
    rw [List.drop_eq_getElem_cons hi, hi2, mrg_cons, if_neg hxy]
theorem next_push {w wo wr w6 : World} {n L g5 g6 c6 xw gx : Nat} {sy G6 : Nat → Nat} {O : List (Nat × PT)} {xp : PT} {u6 : Value} {cs : Array Value} (hO : O.length = L) (hcs : cs.toList = Tv xw gx n)
    (HQ : Pushed w.heap.size w (wr.alloc (.cells cs 136)) w6 136 2 u6 g6 c6 (L + 1) (rowCells n O G6 ++ cs.toList))
    (h1 : wr.ownsRow w.heap.size 136 2 u6 L (rowCells n O G6)) (h2 : ∀ k, k < L → Nrow wr (G6 k) 5 .u8 n (vecP sy (O.getD k d0).2)) (hv : Nrow wr gx 5 .u8 n (vecP sy xp))
    (hne : u6.ownBlock ≠ some g5) (hge : ∀ b, u6.ownBlock = some b → wo.heap.size ≤ b) (hf : Fr [] wo wr) (hg5 : g5 < wr.heap.size) :
    Vrow w6 w.heap.size (.slice (some ⟨g6, 0, none⟩) (L + 1) c6) n sy (O ++ [(xw, xp)]) ∧ (Value.slice (some ⟨g6, 0, none⟩) (L + 1) c6).ownBlock ≠ some g5 ∧ (∀ b, (Value.slice (some ⟨g6, 0, none⟩) (L + 1) c6).ownBlock = some b → wo.heap.size ≤ b) ∧ Fr [] wo w6 := by
  subst hO
  have fA := Fr.alloc [] wr (.cells cs 136)
  have h1A := ownsRow_to h1 fA (by simp)
  have szA : (wr.alloc (.cells cs 136)).heap.size = wr.heap.size + 1 := Array.size_push _
  refine ⟨?_, ?_, ?_, ?_⟩
  · refine Vrow.snoc (g := gx) (G := G6) ?_ (fun k hk => vecs_grown h1A HQ.grown ((h2 k hk).to fA (by simp))) (vecs_grown h1A HQ.grown (hv.to fA (by simp)))
    have := HQ.own
    rw [hcs] at this
    exact this
  · simp only [Value.ownBlock]
    intro h
    have h' : g6 = g5 := by simpa using h
    subst h'
    rcases HQ.or_ with h3 | h3
    · exact hne h3
    · omega
  · intro b hb
    simp [Value.ownBlock] at hb
    subst hb
    rcases HQ.or_ with h3 | h3
    · exact hge _ h3
    · have := hf.size; omega
  · exact Fr.of_below (below_grown (hf.trans fA).below HQ.grown (by have := hf.size; omega) hge)
theorem getD_of_some {R : List (Nat × PT)} {k : Nat} {x : Nat × PT} (h : R[k]? = some x) : R.getD k d0 = x := by rw [List.getD_eq_getElem?_getD, h, Option.getD_some]
set_option maxRecDepth 2000000 in
set_option maxHeartbeats 6400000 in
theorem next_any (n gl cl gr cr : Nat) (sy : Nat → Nat) (LL R : List (Nat × PT)) (w : World) (B1 B2 : Nat) (hLL : Vrow w B1 (.slice (some ⟨gl, 0, none⟩) LL.length cl) n sy LL) (hR : Vrow w B2 (.slice (some ⟨gr, 0, none⟩) R.length cr) n sy R)
    (hn : n ≤ 320) (h2 : 2 ≤ R.length) (hRl : R.length ≤ 640) (hLl : LL.length ≤ 320) (hRw : ∀ x ∈ R, x.1 ≤ 40000000000000) (hLw : ∀ x ∈ LL, x.1 ≤ 40000000000000) :
    Calls Tryz.prog 75 #[.slice (some ⟨gl, 0, none⟩) LL.length cl, .slice (some ⟨gr, 0, none⟩) R.length cr] w fun e w' => ∃ v, e = .returned v ∧ Vrow w' w.heap.size v n sy (mrg LL (prs PT.node R)) ∧ Below w.heap.size w w' := by
  obtain ⟨r, hr⟩ : ∃ r, R.length = r := ⟨_, rfl⟩
  obtain ⟨nl, hnl⟩ : ∃ nl, LL.length = nl := ⟨_, rfl⟩
  have HX := Lib.hid (And.intro hLL (And.intro hR (And.intro hr (And.intro hnl (And.intro hRw (And.intro hLw hn))))))
  rw [hr] at h2 hRl ⊢
  rw [hnl] at hLl ⊢
  have h1 : (r : Int) ≤ 640 := by omega
  have h3 : (nl : Int) ≤ 320 := by omega
  clear hLL hR hr hnl hRw hLw hn
  go_enter Tryz.func75, Tryz.ntmps75
  go_wp2_with fail
  go_loopw [5, 7] (fun v5 v7 wr => NextA w n sy R v5 v7 wr) (fun _ v7 _ => r - (intOf v7).toNat)
  case atStart => exact ⟨0, _, rfl, rfl, Nat.zero_le _, by simpa using Vrow.nil _ _ _ _, Below.refl _ _⟩
  case round =>
    obtain ⟨m, u5, rfl, rfl, hm, hV, hbel⟩ := hrel
    obtain ⟨p, hp⟩ : ∃ p, 2 * m = p := ⟨_, rfl⟩
    rw [hp]
    obtain ⟨q, hq⟩ : ∃ q, p + 1 = q := ⟨_, rfl⟩
    have eq_ : (p : Int) + 1 = (q : Int) := by omega
    have hmr : m ≤ 320 := by have := HX.out.2.2.1; omega
    by_cases hqr : q < r
    · have hqi : (q : Int) < (r : Int) := by omega
      have hpi : (p : Int) < (r : Int) := by omega
      obtain ⟨Gr, hGr1, hGr2⟩ := HX.out.2.1
      have hrl := HX.out.2.2.1
      obtain ⟨c0, c1⟩ := vrow_cell hGr1 p (by omega)
      obtain ⟨e0, e1⟩ := vrow_cell hGr1 q (by omega)
      have hgr := vown_lt hGr1
      have vX := hGr2 p (by omega)
      have vY := hGr2 q (by omega)
      have hxp : R[p]? = some (R.getD p d0) := by rw [List.getD_eq_getElem?_getD, List.getElem?_eq_getElem (by omega), Option.getD_some]
      have hyq : R[q]? = some (R.getD q d0) := by rw [List.getD_eq_getElem?_getD, List.getElem?_eq_getElem (by omega), Option.getD_some]
      have bx := HX.out.2.2.2.2.1 _ (List.mem_of_getElem? hxp)
      have by_ := HX.out.2.2.2.2.1 _ (List.mem_of_getElem? hyq)
      obtain ⟨⟨xw, xp⟩, hX⟩ : ∃ z, R.getD p d0 = z := ⟨_, rfl⟩
      obtain ⟨⟨yw, yp⟩, hY⟩ : ∃ z, R.getD q d0 = z := ⟨_, rfl⟩
      rw [hX] at c0 vX hxp bx
      rw [hY] at e0 vY hyq by_
      simp only at c0 e0 vX vY bx by_
      obtain ⟨gx, hgx⟩ : ∃ gx, Gr p = gx := ⟨_, rfl⟩
      obtain ⟨gy, hgy⟩ : ∃ gy, Gr q = gy := ⟨_, rfl⟩
      rw [hgx] at c1 vX
      rw [hgy] at e1 vY
      obtain ⟨z, hz⟩ : ∃ z, xw + yw = z := ⟨_, rfl⟩
      have hzb : (z : Int) ≤ 80000000000000 := by omega
      have hpk := prs_get PT.node R m (xw, xp) (yw, yp) (by rw [hp]; exact hxp) (by rw [hp, hq]; exact hyq)
      have HK : Hid (gr < w.heap.size ∧ Four gr p q xw gx yw gy n w) := Lib.hid ⟨hgr, c0, c1, e0, e1⟩
      have f0 := Four.to HK hbel
      obtain ⟨k0, k1, k2, k3⟩ := f0
      have hgrr : gr < wr.heap.size := by have := hbel.size; omega
      have hwq : IntKind.i64.wrap (q : Int) = (q : Int) := IntWalk.i64_in _ (by omega)
      have HB := Lib.hid hbel
      have HBO := Lib.hid (fun W (f : Below w.heap.size w W) => both_any xw gx yw gy n (vecP sy xp) (vecP sy yp) W (by omega) HX.out.2.2.2.2.2.2 (vX.to (Fr.of_below (l := []) f) (by simp)) (vY.to (Fr.of_below (l := []) f) (by simp)) (fun i _ => vecP_le _ _ _) (fun i _ => vecP_le _ _ _))
      rw [hz] at HBO
      obtain ⟨G, hG1, hG2⟩ := hV
      have hml : ((prs PT.node R).take m).length = m := by rw [List.length_take, prs_length]; omega
      unfold rowCells at hG1
      rw [hml] at hG1 hG2
      have HV := Lib.hid (And.intro hG1 (And.intro hG2 (And.intro hml (And.intro hpk (And.intro hp (And.intro hq hz))))))
      unfold rv at HBO
      clear hG1 hG2 hml hpk hbel hGr1 hGr2 c0 c1 e0 e1 vX vY hxp hyq hX hY hgx hgy hz hp hq hm bx by_ hgr
      go_wp2_with fail
      go_region_held3 (fun w' => w'.cell? ⟨gr, p * 2, none⟩ = some (.int .i64 (xw : Int)) ∧ w'.cell? ⟨gr, p * 2 + 1, none⟩ = some (.slice (some ⟨gx, 0, none⟩) n n) ∧ w'.cell? ⟨gr, q * 2, none⟩ = some (.int .i64 (yw : Int)) ∧ w'.cell? ⟨gr, q * 2 + 1, none⟩ = some (.slice (some ⟨gy, 0, none⟩) n n))
        (first | go_keep | exact Four.to HK (f5.out ((Fr.drew (Fr.refl [] _)).out HB.out (by simp)) (by simp)) | exact Four.to HK ((Fr.alloc [] _ _).out (f5.out ((Fr.drew (Fr.refl [] _)).out HB.out (by simp)) (by simp)) (by simp)) | exact Four.to HK HQ.out.2.2.1)
        (first | (go_at_call 98; refine (HBO.out _ ?_).mono ?_; exact (Fr.drew (Fr.refl [] _)).out HB.out (by simp); rintro e w5 ⟨g5, rfl, hge5, hN5, f5⟩) | (refine step_push w.heap.size w _ (by rfl) (.tmp 17) (.tmp 28) 134 (by rfl) 136 2 32 elemV u5 m _ (by rfl) (Lib.hid (ownsRow_to HV.out.1 (((Fr.drew (Fr.refl [] _)).trans f5).trans (Fr.alloc [] _ _)) (by simp))) (Lib.hid ((Fr.alloc [] _ _).out (f5.out ((Fr.drew (Fr.refl [] _)).out HB.out (by simp)) (by simp)) (by simp))) (((Fr.alloc [] _ _).out (f5.out ((Fr.drew (Fr.refl [] _)).out HB.out (by simp)) (by simp)) (by simp)).size) #[.int .i64 (z : Int), .slice (some ⟨g5, 0, none⟩) n n] w5.heap.size 1 1 (by rfl) (new_of _ _) (by rfl) (by rfl) (by omega) (by omega) (by omega) ?_; intro g' cap' w6 HQ))
      go_wp2_with fail
      go_roundw
      case rel =>
        obtain ⟨hG1, hG2, hml, hpk, hp, hq, hz⟩ := HV.out
        obtain ⟨hown6, hgrow6, hbel6, hge6⟩ := HQ.out
        have hfa := ((Fr.drew (Fr.refl [] wr)).trans f5).trans (Fr.alloc [] w5 (.cells #[.int .i64 (z : Int), .slice (some ⟨g5, 0, none⟩) n n] 136))
        have hownA := ownsRow_to hG1 hfa (by simp)
        have hm2 : 2 * (m + 1) ≤ R.length := by have := HX.out.2.2.1; omega
        refine ⟨m + 1, _, rfl, by first | go_num | (rw [← hp]; congr 1; omega), hm2, ?_, hbel6⟩
        have e : (prs PT.node R).take (m + 1) = (prs PT.node R).take m ++ [(z, .node xp yp)] := by
          rw [List.take_add_one, hpk, Option.toList_some, hz]
        rw [e]
        refine Vrow.snoc (g := g5) (G := G) ?_ (fun k hk => ?_) ?_
        · rw [hml]
          unfold rowCells
          rw [hml]
          exact hown6
        · rw [hml] at hk
          exact vecs_grown hownA hgrow6 ((hG2 k hk).to hfa (by simp))
        · rw [vecP_node]
          exact vecs_grown hownA hgrow6 (hN5.to (Fr.alloc [] w5 _) (by simp))
      case measure => simp [intOf]; omega
    · have hqd : decide (q < r) = false := by simp; omega
      have hqb : (q : Int) ≤ 1300 := by omega
      have hm2 : m = r / 2 := by have := HX.out.2.2.1; omega
      have hPm : (prs PT.node R).take m = prs PT.node R := List.take_of_length_le (by rw [prs_length, HX.out.2.2.1]; omega)
      rw [hPm] at hV
      have hPl : (prs PT.node R).length = m := by rw [prs_length, HX.out.2.2.1, hm2]
      have hPw : ∀ x ∈ prs PT.node R, x.1 ≤ 80000000000000 := fun x hx => by
        obtain ⟨k, hk⟩ := List.getElem?_of_mem hx
        have hkl := (List.getElem?_eq_some_iff.1 hk).1
        rw [hPl] at hkl
        have hRl2 := HX.out.2.2.1
        have := prs_get PT.node R k R[2 * k] R[2 * k + 1] (List.getElem?_eq_getElem (by omega)) (List.getElem?_eq_getElem (by omega))
        rw [hk] at this
        simp at this
        have h5 := HX.out.2.2.2.2.1 R[2 * k] (List.getElem_mem _)
        have h6 := HX.out.2.2.2.2.1 R[2 * k + 1] (List.getElem_mem _)
        rw [this]; simp only; omega
      obtain ⟨P, hP⟩ : ∃ P, prs PT.node R = P := ⟨_, rfl⟩
      rw [hP] at hV hPl hPw
      have HPE := Lib.hid hP
      have hm0 : 0 < m := by omega
      obtain ⟨G5, hG51, hG52⟩ := hV
      rw [hPl] at hG51 hG52
      rcases hG51.2 with ⟨_, h0⟩ | ⟨g5, c5, cur5, hv5, _⟩
      · omega
      subst hv5
      have hmi : (m : Int) ≤ 320 := by omega
      have hg5 := hG51.lt g5 rfl
      obtain ⟨wo, hwo⟩ : ∃ wo, wo = wr := ⟨wr, rfl⟩
      subst hwo
      have HP := Lib.hid (And.intro hG51 (And.intro hG52 (And.intro hPl (And.intro hPw (And.intro hg5 hbel)))))
      clear hG51 hG52 hPl hPw hg5 hbel hPm hm2 hP hqr hm
      go_wp2_with fail
      go_loopw [6, 8, 9] (fun v6 v8 v9 wr => NextB w wo n sy LL P g5 v6 v8 v9 wr) (fun _ v8 v9 _ => nl + m - (intOf v8).toNat - (intOf v9).toNat)
      case atStart => exact ⟨0, 0, _, [], rfl, rfl, rfl, Nat.zero_le _, Nat.zero_le _, rfl, by simp, Vrow.nil _ _ _ _, by simp [Value.ownBlock], fun b hb => by simp [Value.ownBlock] at hb, Fr.refl _ _⟩
      case round =>
        obtain ⟨i, k, u6, O, rfl, rfl, rfl, hi, hk, hOl, hO, hV6, hne, hge, hf⟩ := hrel
        rw [HX.out.2.2.2.1] at hi
        rw [HP.out.2.2.1] at hk
        have hki : (k : Int) ≤ (m : Int) := by omega
        have hii : (i : Int) ≤ (nl : Int) := by omega
        obtain ⟨GL, hGL1, hGL2⟩ := HX.out.1
        have hLl := HX.out.2.2.2.1
        have hPl := HP.out.2.2.1
        have hszw := HP.out.2.2.2.2.2.size
        have hgl := vown_lt hGL1
        have hbw : Below w.heap.size w wr := hf.out HP.out.2.2.2.2.2 (by simp)
        have hszo : w.heap.size ≤ wr.heap.size := hbw.size
        have hg5r : g5 < wr.heap.size := Nat.lt_of_lt_of_le HP.out.2.2.2.2.1.2 hf.size
        have hglr : gl < wr.heap.size := by omega
        obtain ⟨G6, hG61, hG62⟩ := hV6
        have HB := Lib.hid hbw
        have hG51r := ownsRow_to HP.out.1 hf (by simp)
        -- which comes next
        have hwhich : (∃ x, LL[i]? = some x ∧ i < nl ∧ (m ≤ k ∨ k < m ∧ ∃ y, P[k]? = some y ∧ x.1 ≤ y.1)) ∨ (∃ y, P[k]? = some y ∧ k < m ∧ (nl ≤ i ∨ i < nl ∧ ∃ x, LL[i]? = some x ∧ ¬ x.1 ≤ y.1)) ∨ (nl ≤ i ∧ m ≤ k) := by
          by_cases h1 : i < nl
          · have hx : LL[i]? = some LL[i] := List.getElem?_eq_getElem (by omega)
            by_cases h2 : k < m
            · have hy : P[k]? = some P[k] := List.getElem?_eq_getElem (by omega)
              by_cases h3 : LL[i].1 ≤ P[k].1
              · exact .inl ⟨_, hx, h1, .inr ⟨h2, _, hy, h3⟩⟩
              · exact .inr (.inl ⟨_, hy, h2, .inr ⟨h1, _, hx, h3⟩⟩)
            · exact .inl ⟨_, hx, h1, .inl (by omega)⟩
          · by_cases h2 : k < m
            · exact .inr (.inl ⟨_, List.getElem?_eq_getElem (by omega), h2, .inl (by omega)⟩)
            · exact .inr (.inr ⟨by omega, by omega⟩)
        have hOl2 : O.length ≤ 640 := by omega
        rcases hwhich with ⟨x, hx, hin, hcase⟩ | ⟨y, hy, hkm, hcase⟩ | ⟨hin, hkm⟩
        · -- a leaf
          obtain ⟨xw, xp⟩ := x
          have gx_ := getD_of_some hx
          obtain ⟨c0, c1⟩ := vrow_cell hGL1 i (by omega)
          have vX := hGL2 i (by omega)
          rw [gx_] at c0 vX
          simp only at c0 vX
          obtain ⟨gx, hgx⟩ : ∃ gx, GL i = gx := ⟨_, rfl⟩
          rw [hgx] at c1 vX
          have k0 : wr.cell? ⟨gl, i * 2, none⟩ = some (.int .i64 (xw : Int)) := by rw [hbw.cell (p := ⟨gl, i * 2, none⟩) hgl]; exact c0
          have k1 : wr.cell? ⟨gl, i * 2 + 1, none⟩ = some (.slice (some ⟨gx, 0, none⟩) n n) := by rw [hbw.cell (p := ⟨gl, i * 2 + 1, none⟩) hgl]; exact c1
          have bx := HX.out.2.2.2.2.2.1 _ (List.mem_of_getElem? hx)
          have hxwb : (xw : Int) ≤ 40000000000000 := by simp only at bx; omega
          have hini : (i : Int) < (nl : Int) := by omega
          have HS := Lib.hid (And.intro hG61 (And.intro hG62 (And.intro (vX.to (Fr.of_below (l := []) hbw) (by simp)) (And.intro hne (And.intro hge (And.intro hf (And.intro hOl hO)))))))
          have HO6 := Lib.hid hG61
          rcases hcase with hmk | ⟨hkm, ⟨yw, yp⟩, hy, hxy⟩
          · have hmki : (m : Int) ≤ (k : Int) := by omega
            have hkmd : decide (k < m) = false := by simp; omega
            have HM := Lib.hid (mrg_fst (P := P) (k := k) hx (.inl (by omega)))
            clear hG61 hG62 hG51r hbw hO hOl hne hge hGL1 hGL2 hf c0 c1 vX hgx gx_ hx bx hmk
            go_wp2_with fail
            refine wp_region_quiet_tail 22 (by kernel_rfl) (by kernel_rfl) ?_
            simp only [List.take_succ_cons, List.take_zero, List.drop_succ_cons, List.drop_zero]
            repeat go_big_quiet_step (fail)
            refine wpQuiet_nil ?_
            have HO7 := Lib.hid (ownsRow_to HO6.out (Fr.drew (Fr.refl [] wr)) (by simp))
            have HB7 := Lib.hid ((Fr.drew (Fr.refl [] wr)).out HB.out (by simp))
            go_wp2_with (first | (at_builtin; go_must (refine wpList_push w.heap.size w wr.drew rfl (.tmp 63) (.tmp 68) 134 rfl 136 2 32 elemV u6 O.length _ rfl HO7 HB7 hszo #[.int .i64 (xw : Int), .slice (some ⟨gx, 0, none⟩) n n] 1 1 rfl rfl rfl (by omega) (by omega) (by omega) ?_); intro g6 c6 w6 HQ))
            obtain ⟨s1, s2, s3, s4, s5, s6, s7, s8⟩ := HS.out
            have hfin := next_push (O := O) (xp := xp) rfl rfl HQ.out (ownsRow_to s1 (Fr.drew (Fr.refl [] wr)) (by simp)) (fun k hk => (s2 k hk).to (Fr.drew (Fr.refl [] wr)) (by simp)) (s3.to (Fr.drew (Fr.refl [] wr)) (by simp)) s4 s5 s6.drew hg5r
            exact ⟨⟨i + 1, k, _, O ++ [(xw, xp)], rfl, by go_num, rfl, by omega, by omega, by rw [List.length_append, s7]; simp; omega, by rw [s8, HM.out, List.append_assoc]; rfl, hfin.1, hfin.2.1, hfin.2.2.1, hfin.2.2.2⟩, by simp [intOf]; omega⟩
          · have hkmi : (k : Int) < (m : Int) := by omega
            have gy_ := getD_of_some hy
            have hG51r2 := hG51r
            rw [← hPl] at hG51r2
            obtain ⟨e0, _⟩ := vrow_cell hG51r2 k (by omega)
            rw [gy_] at e0
            simp only at e0
            have by_ := HP.out.2.2.2.1 _ (List.mem_of_getElem? hy)
            have hywb : (yw : Int) ≤ 80000000000000 := by simp only at by_; omega
            have hxyi : (xw : Int) ≤ (yw : Int) := by simp only at hxy; omega
            have hmkd : decide (m ≤ k) = false := by simp; omega
            have HM := Lib.hid (mrg_fst (LL := LL) (i := i) hx (.inr ⟨_, hy, hxy⟩))
            clear hG61 hG62 hG51r hG51r2 hbw hO hOl hne hge hGL1 hGL2 hf c0 c1 vX hgx gx_ hx bx hxy hy gy_ by_
            go_wp2_with fail
            refine wp_region_quiet_tail 22 (by kernel_rfl) (by kernel_rfl) ?_
            simp only [List.take_succ_cons, List.take_zero, List.drop_succ_cons, List.drop_zero]
            repeat go_big_quiet_step (fail)
            refine wpQuiet_nil ?_
            have HO7 := Lib.hid (ownsRow_to HO6.out (Fr.drew (Fr.refl [] wr)) (by simp))
            have HB7 := Lib.hid ((Fr.drew (Fr.refl [] wr)).out HB.out (by simp))
            go_wp2_with (first | (at_builtin; go_must (refine wpList_push w.heap.size w wr.drew rfl (.tmp 63) (.tmp 68) 134 rfl 136 2 32 elemV u6 O.length _ rfl HO7 HB7 hszo #[.int .i64 (xw : Int), .slice (some ⟨gx, 0, none⟩) n n] 1 1 rfl rfl rfl (by omega) (by omega) (by omega) ?_); intro g6 c6 w6 HQ))
            obtain ⟨s1, s2, s3, s4, s5, s6, s7, s8⟩ := HS.out
            have hfin := next_push (O := O) (xp := xp) rfl rfl HQ.out (ownsRow_to s1 (Fr.drew (Fr.refl [] wr)) (by simp)) (fun k hk => (s2 k hk).to (Fr.drew (Fr.refl [] wr)) (by simp)) (s3.to (Fr.drew (Fr.refl [] wr)) (by simp)) s4 s5 s6.drew hg5r
            exact ⟨⟨i + 1, k, _, O ++ [(xw, xp)], rfl, by go_num, rfl, by omega, by omega, by rw [List.length_append, s7]; simp; omega, by rw [s8, HM.out, List.append_assoc]; rfl, hfin.1, hfin.2.1, hfin.2.2.1, hfin.2.2.2⟩, by simp [intOf]; omega⟩
        · obtain ⟨yw, yp⟩ := y
          have gy_ := getD_of_some hy
          have hG51r2 := hG51r
          rw [← hPl] at hG51r2
          obtain ⟨e0, e1⟩ := vrow_cell hG51r2 k (by omega)
          have vY := (HP.out.2.1 k hkm).to hf (by simp)
          rw [gy_] at e0 vY
          simp only at e0 vY
          obtain ⟨gy, hgy⟩ : ∃ gy, G5 k = gy := ⟨_, rfl⟩
          rw [hgy] at e1 vY
          have by_ := HP.out.2.2.2.1 _ (List.mem_of_getElem? hy)
          have hywb : (yw : Int) ≤ 80000000000000 := by simp only at by_; omega
          have hkmi : (k : Int) < (m : Int) := by omega
          have hmkd : decide (m ≤ k) = false := by simp; omega
          have HS := Lib.hid (And.intro hG61 (And.intro hG62 (And.intro vY (And.intro hne (And.intro hge (And.intro hf (And.intro hOl hO)))))))
          have HO6 := Lib.hid hG61
          rcases hcase with hnk | ⟨hin, ⟨xw, xp⟩, hx, hxy⟩
          · have hnki : (nl : Int) ≤ (i : Int) := by omega
            have hind : decide (i < nl) = false := by simp; omega
            have HM := Lib.hid (mrg_snd (LL := LL) (i := i) hy (.inl (by omega)))
            clear hG61 hG62 hG51r hG51r2 hbw hO hOl hne hge hGL1 hGL2 hf vY hgy gy_ hy by_ hnk hkm
            go_wp2_with fail
            refine wp_region_quiet_tail 22 (by kernel_rfl) (by kernel_rfl) ?_
            simp only [List.take_succ_cons, List.take_zero, List.drop_succ_cons, List.drop_zero]
            repeat go_big_quiet_step (fail)
            refine wpQuiet_nil ?_
            have HO7 := Lib.hid (ownsRow_to HO6.out (Fr.drew (Fr.refl [] wr)) (by simp))
            have HB7 := Lib.hid ((Fr.drew (Fr.refl [] wr)).out HB.out (by simp))
            go_wp2_with (first | (at_builtin; go_must (refine wpList_push w.heap.size w wr.drew rfl (.tmp 72) (.tmp 77) 134 rfl 136 2 32 elemV u6 O.length _ rfl HO7 HB7 hszo #[.int .i64 (yw : Int), .slice (some ⟨gy, 0, none⟩) n n] 1 1 rfl rfl rfl (by omega) (by omega) (by omega) ?_); intro g6 c6 w6 HQ))
            obtain ⟨s1, s2, s3, s4, s5, s6, s7, s8⟩ := HS.out
            have hfin := next_push (O := O) (xp := yp) rfl rfl HQ.out (ownsRow_to s1 (Fr.drew (Fr.refl [] wr)) (by simp)) (fun k hk => (s2 k hk).to (Fr.drew (Fr.refl [] wr)) (by simp)) (s3.to (Fr.drew (Fr.refl [] wr)) (by simp)) s4 s5 s6.drew hg5r
            exact ⟨⟨i, k + 1, _, O ++ [(yw, yp)], rfl, rfl, by go_num, by omega, by omega, by rw [List.length_append, s7]; simp; omega, by rw [s8, HM.out, List.append_assoc]; rfl, hfin.1, hfin.2.1, hfin.2.2.1, hfin.2.2.2⟩, by simp [intOf]; omega⟩
          · have hini : (i : Int) < (nl : Int) := by omega
            have gx_ := getD_of_some hx
            obtain ⟨c0, _⟩ := vrow_cell hGL1 i (by omega)
            rw [gx_] at c0
            simp only at c0
            have k0 : wr.cell? ⟨gl, i * 2, none⟩ = some (.int .i64 (xw : Int)) := by rw [hbw.cell (p := ⟨gl, i * 2, none⟩) hgl]; exact c0
            have bx := HX.out.2.2.2.2.2.1 _ (List.mem_of_getElem? hx)
            have hxwb : (xw : Int) ≤ 40000000000000 := by simp only at bx; omega
            have hxyi : (yw : Int) < (xw : Int) := by simp only at hxy; omega
            have HM := Lib.hid (mrg_snd (P := P) (k := k) hy (.inr ⟨_, hx, hxy⟩))
            clear hG61 hG62 hG51r hG51r2 hbw hO hOl hne hge hGL1 hGL2 hf vY hgy gy_ hy by_ hkm gx_ c0 hx bx hxy
            go_wp2_with fail
            refine wp_region_quiet_tail 22 (by kernel_rfl) (by kernel_rfl) ?_
            simp only [List.take_succ_cons, List.take_zero, List.drop_succ_cons, List.drop_zero]
            repeat go_big_quiet_step (fail)
            refine wpQuiet_nil ?_
            have HO7 := Lib.hid (ownsRow_to HO6.out (Fr.drew (Fr.refl [] wr)) (by simp))
            have HB7 := Lib.hid ((Fr.drew (Fr.refl [] wr)).out HB.out (by simp))
            go_wp2_with (first | (at_builtin; go_must (refine wpList_push w.heap.size w wr.drew rfl (.tmp 72) (.tmp 77) 134 rfl 136 2 32 elemV u6 O.length _ rfl HO7 HB7 hszo #[.int .i64 (yw : Int), .slice (some ⟨gy, 0, none⟩) n n] 1 1 rfl rfl rfl (by omega) (by omega) (by omega) ?_); intro g6 c6 w6 HQ))
            obtain ⟨s1, s2, s3, s4, s5, s6, s7, s8⟩ := HS.out
            have hfin := next_push (O := O) (xp := yp) rfl rfl HQ.out (ownsRow_to s1 (Fr.drew (Fr.refl [] wr)) (by simp)) (fun k hk => (s2 k hk).to (Fr.drew (Fr.refl [] wr)) (by simp)) (s3.to (Fr.drew (Fr.refl [] wr)) (by simp)) s4 s5 s6.drew hg5r
            exact ⟨⟨i, k + 1, _, O ++ [(yw, yp)], rfl, rfl, by go_num, by omega, by omega, by rw [List.length_append, s7]; simp; omega, by rw [s8, HM.out, List.append_assoc]; rfl, hfin.1, hfin.2.1, hfin.2.2.1, hfin.2.2.2⟩, by simp [intOf]; omega⟩
        · have hin' : decide (i < nl) = false := by simp; omega
          have hkm' : decide (k < m) = false := by simp; omega
          have hend : O = mrg LL P := by rw [hO, List.drop_eq_nil_of_le (by omega), List.drop_eq_nil_of_le (by omega), mrg_nil, List.append_nil]
          have HE := Lib.hid (show Vrow wr w.heap.size u6 n sy (mrg LL P) from hend ▸ ⟨G6, hG61, hG62⟩)
          clear hG61 hG62 hG51r hf hbw hO hOl hne hge hGL1 hGL2
          go_wp2_with fail
          go_ret
          rw [HPE.out]
          exact ⟨_, rfl, HE.out, HB.out⟩
end Go.Proofs.YtciejmlhdmjajaaGreat
namespace Go.Proofs.YtciejmlhdmjajaaGreat
open Go.RowKit
set_option linter.unusedVariables false
set_option linter.unusedSimpArgs false

theorem lev_w {L : List (Nat × PT)} (h : ∀ x ∈ L, x.1 ≤ 1073741824) : ∀ j, ∀ x ∈ lev PT.node L j, x.1 ≤ 2 ^ (30 + j)
  | 0, x, hx => Nat.le_trans (h x hx) (by decide)
  | j + 1, x, hx => by
    have ih := lev_w h j
    have e : 2 ^ (30 + (j + 1)) = 2 ^ (30 + j) * 2 := Nat.pow_succ _ _
    have e0 : 2 ^ 30 ≤ 2 ^ (30 + j) := Nat.pow_le_pow_right (by decide) (by omega)
    rw [lev] at hx
    rcases List.mem_append.1 ((mrg_perm _ _).subset hx) with hx | hx
    · have := h x hx; omega
    · obtain ⟨k, hk⟩ := List.getElem?_of_mem hx
      have hkl := (List.getElem?_eq_some_iff.1 hk).1
      rw [prs_length] at hkl
      have := prs_get PT.node (lev PT.node L j) k (lev PT.node L j)[2 * k] (lev PT.node L j)[2 * k + 1] (List.getElem?_eq_getElem (by omega)) (List.getElem?_eq_getElem (by omega))
      rw [hk] at this
      simp at this
      have h5 := ih _ (List.getElem_mem (show 2 * k < (lev PT.node L j).length by omega))
      have h6 := ih _ (List.getElem_mem (show 2 * k + 1 < (lev PT.node L j).length by omega))
      rw [this]; simp only; omega
set_option maxRecDepth 2000000 in
set_option maxHeartbeats 6400000 in
/-- A limit that may not be, or too many counts. -/
theorem refLens_a (a : Option Addr) (c : Nat) (l : List Int) (limit : Int) (w : World) (hl : l.length ≤ 9223372036854775807) (hg0 : -9223372036854775808 ≤ limit) (hg1 : limit ≤ 9223372036854775807) (hb : 320 < l.length ∨ limit < 1 ∨ 15 < limit) :
    Calls Tryz.prog 51 #[.slice a l.length c, .int .i64 limit] w fun e w' => e = .returned (.tuple #[.slice none 0 0, .int .i64 2]) ∧ w' = w := by
  have hl1 : (l.length : Int) ≤ 9223372036854775807 := by omega
  by_cases h1 : 320 < l.length
  · have h1i : 320 < (l.length : Int) := by omega
    clear hb hl
    go_enter Tryz.func51, Tryz.ntmps51
    go_wp2_with fail
    go_ret2
    exact ⟨rfl, rfl⟩
  · have h1i : (l.length : Int) ≤ 320 := by omega
    by_cases h2 : limit < 1
    · clear hb hl h1
      go_enter Tryz.func51, Tryz.ntmps51
      go_wp2_with fail
      go_ret2
      exact ⟨rfl, rfl⟩
    · have h2i : 1 ≤ limit := by omega
      have h3 : 15 < limit := by omega
      clear hb hl h1 h2
      go_enter Tryz.func51, Tryz.ntmps51
      go_wp2_with fail
      go_ret2
      exact ⟨rfl, rfl⟩
set_option maxRecDepth 2000000 in
set_option maxHeartbeats 6400000 in
/-- A count that may not be. -/
theorem refLens_b (a : Option Addr) (c : Nat) (l : List Int) (limit : Int) (w : World) (hs : SlOf (Zn .i64) 1 w a l) (hl : l.length ≤ 320) (hg0 : 1 ≤ limit) (hg1 : limit ≤ 15) (hb : badC l) :
    Calls Tryz.prog 51 #[.slice a l.length c, .int .i64 limit] w fun e w' => e = .returned (.tuple #[.slice none 0 0, .int .i64 2]) ∧ w' = w := by
  have hl1 : (l.length : Int) ≤ 320 := by omega
  have HX := Lib.hid (And.intro hs (And.intro hl hb))
  clear hs hl hb
  go_enter Tryz.func51, Tryz.ntmps51
  go_wp2_with fail
  go_loopw [6] (fun v6 wr => ∃ j : Nat, v6 = .int .i64 (j : Int) ∧ j ≤ l.length ∧ Hid (∀ x ∈ l.take j, 0 ≤ x ∧ x ≤ 1073741824) ∧ wr = w) (fun v6 _ => l.length - (intOf v6).toNat)
  case atStart => exact ⟨0, rfl, Nat.zero_le _, Lib.hid (fun x hx => by simp at hx), rfl⟩
  case round =>
    obtain ⟨j, rfl, hj, hok, hw⟩ := hrel
    replace hw := hw.symm
    subst hw
    by_cases hjl : j < l.length
    · have hji : (j : Int) < (l.length : Int) := by omega
      obtain ⟨x, hx⟩ : ∃ x, l[j]? = some x := ⟨l[j], List.getElem?_eq_getElem hjl⟩
      obtain ⟨g1, o1, rfl, hb1, hc1⟩ := HX.out.1 (by intro h; rw [h] at hx; simp at hx)
      have c1 := hc1 j x hx 0 (.int .i64 x) rfl
      rw [Nat.mul_one, Nat.add_zero] at c1
      have HH := Lib.hid hx
      by_cases h0 : x < 0
      · clear hc1 hx
        go_wp2_with fail
        go_ret2
        exact ⟨rfl, rfl⟩
      · have h0i : 0 ≤ x := by omega
        by_cases h1 : 1073741824 < x
        · clear hc1 hx h0
          go_wp2_with fail
          go_ret2
          exact ⟨rfl, rfl⟩
        · have h1i : x ≤ 1073741824 := by omega
          clear hc1 hx h0 h1
          go_wp2_with fail
          refine ⟨⟨j + 1, by go_num, by omega, Lib.hid (fun y hy => ?_), by first | rfl | trivial⟩, by simp [intOf]; omega⟩
          rw [List.take_add_one, HH.out] at hy
          rcases List.mem_append.1 hy with hy | hy
          · exact hok.out y hy
          · simp at hy; omega
    · exfalso
      have hje : j = l.length := by omega
      have := hok.out
      rw [hje, List.take_length] at this
      rcases HX.out.2.2 with h | ⟨x, hx, h⟩
      · have := HX.out.2.1; omega
      · have := this x hx; omega
/-- Behind the checks: the symbols, and how many there are. -/
def RefS (w : World) (l : List Int) (n : Nat) (v7 : Value) (F : Nat → Nat) (wr : World) : Prop :=
  wr.ownsRow w.heap.size 3 1 v7 n (ivs n F) ∧ (List.range n).map (fun k => (wt0 l (F k), F k)) = sortC l ∧ Below w.heap.size w wr
theorem refS_get {l : List Int} {n : Nat} {F : Nat → Nat} (h : (List.range n).map (fun k => (wt0 l (F k), F k)) = sortC l) {k : Nat} (hk : k < n) : (sortC l)[k]? = some (wt0 l (F k), F k) := by
  rw [← h, List.getElem?_map, List.getElem?_range hk]; rfl
theorem refS_is {l : List Int} {n : Nat} {F : Nat → Nat} (h : (List.range n).map (fun k => (wt0 l (F k), F k)) = sortC l) {k : Nat} (hk : k < n) : ∃ c, l[F k]? = some c ∧ 0 < c ∧ wt0 l (F k) = c.toNat :=
  (sortC_mem l _).1 (List.mem_of_getElem? (refS_get h hk))
theorem refS_inj {l : List Int} {n : Nat} {F : Nat → Nat} (h : (List.range n).map (fun k => (wt0 l (F k), F k)) = sortC l) {i k : Nat} (hi : i < n) (hk : k < n) (he : F i = F k) : i = k := by
  have hd := sortC_dst l
  unfold dst at hd
  rw [List.pairwise_map, List.pairwise_iff_getElem] at hd
  have hlen : (sortC l).length = n := by rw [← h]; simp
  have gi := (List.getElem?_eq_some_iff.1 (refS_get h hi)).2
  have gk := (List.getElem?_eq_some_iff.1 (refS_get h hk)).2
  rcases Nat.lt_trichotomy i k with hik | hik | hik
  · have := hd i k (by omega) (by omega) hik
    rw [gi, gk] at this
    simp only [leafP, symP] at this
    exact absurd he this
  · exact hik
  · have := hd k i (by omega) (by omega) hik
    rw [gi, gk] at this
    simp only [leafP, symP] at this
    exact absurd he.symm this
end Go.Proofs.YtciejmlhdmjajaaGreat

