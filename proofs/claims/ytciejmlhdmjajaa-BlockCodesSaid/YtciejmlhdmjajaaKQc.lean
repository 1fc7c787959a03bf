/- PackBest: its walk. platenref06's Needs and symbols. platenref06's symbols: those that count, by rising counts. platenref06's symbols: its walk. -/
import Derived.Test.YtciejmlhdmjajaaKPr
namespace Go.Proofs.Ytciejmlhdmjajaa
open Go.RowKit
set_option linter.unusedVariables false
set_option linter.unusedSimpArgs false

/-- Whole numbers, as cells. -/
def ivs (n : Nat) (F : Nat → Nat) : List Value := (List.range n).map fun j => Value.int .i64 (F j : Int)
theorem ivs_congr {n : Nat} {F G : Nat → Nat} (h : ∀ j, j < n → F j = G j) : ivs n F = ivs n G := List.map_congr_left fun j hj => by rw [h j (List.mem_range.1 hj)]
theorem ivs_snoc (n : Nat) (F : Nat → Nat) : ivs (n + 1) F = ivs n F ++ [.int .i64 (F n : Int)] := by unfold ivs; rw [List.range_succ, List.map_append]; rfl
theorem own_blk {w : World} {B g n cap : Nat} {xs : List Value} (h : w.ownsRow B 3 1 (.slice (some ⟨g, 0, none⟩) n cap) n xs) : ∃ cur, w.heap[g]? = some (.cells cur 3 (0, 0)) := by
  rcases h.2 with ⟨h1, _⟩ | ⟨g', cap', cur, he, hb, hg, _⟩
  · simp at h1
  · simp at he
    obtain ⟨rfl, _⟩ := he
    exact ⟨cur, hg⟩
theorem own_cell {w : World} {B g n cap : Nat} {F : Nat → Nat} (h : w.ownsRow B 3 1 (.slice (some ⟨g, 0, none⟩) n cap) n (ivs n F)) (k : Nat) (hk : k < n) : w.cell? ⟨g, k, none⟩ = some (.int .i64 (F k : Int)) := by
  have := h.cells (g := g) rfl k (.int .i64 (F k : Int)) (by unfold ivs; rw [List.getElem?_map, List.getElem?_range hk]; rfl)
  rwa [add_none, Nat.zero_add] at this
theorem own_set {w : World} {B g n cap : Nat} {F G : Nat → Nat} {k y : Nat} (h : w.ownsRow B 3 1 (.slice (some ⟨g, 0, none⟩) n cap) n (ivs n F)) (hG : ∀ j, j < n → G j = if j = k then y else F j) : (w.setCell ⟨g, k, none⟩ (.int .i64 (y : Int))).ownsRow B 3 1 (.slice (some ⟨g, 0, none⟩) n cap) n (ivs n G) := by
  refine ⟨by unfold ivs; simp, ?_⟩
  rcases h.2 with ⟨h1, _⟩ | ⟨g', cap', cur, he, hb, hg, hc, hm, hs, ht⟩
  · simp at h1
  · simp at he
    obtain ⟨rfl, rfl⟩ := he
    refine .inr ⟨g, cap, cur.setIfInBounds k (.int .i64 (y : Int)), rfl, hb, set_of hg k _, hc, hm, by simpa using hs, ?_⟩
    rw [Array.toList_setIfInBounds, List.take_set, ht]
    apply List.ext_getElem?
    intro i
    unfold ivs
    rw [List.getElem?_set]
    by_cases hi : i < n
    · rw [List.getElem?_map, List.getElem?_map, List.getElem?_range hi, Option.map_some, Option.map_some, hG i hi]
      by_cases hik : k = i
      · subst hik; simp [hi]
      · rw [if_neg hik, if_neg (Ne.symm hik)]
    · rw [List.getElem?_eq_none (by simp; omega), List.getElem?_eq_none (by simp; omega)]
      by_cases hik : k = i
      · subst hik; rw [if_pos rfl, if_neg (by simp; omega)]
      · rw [if_neg hik]
theorem swap_perm (n a b : Nat) (F : Nat → Nat) (ha : a < n) (hb : b < n) : ((List.range n).map (swapF F a b)).Perm ((List.range n).map F) := by
  have e : (List.range n).map (swapF F a b) = ((List.range n).map (swapF id a b)).map F := by
    rw [List.map_map]
    exact List.map_congr_left fun k _ => by
      simp only [swapF, Function.comp, id]
      by_cases h1 : k = a
      · rw [if_pos h1, if_pos h1]
      · rw [if_neg h1, if_neg h1]
        by_cases h2 : k = b
        · rw [if_pos h2, if_pos h2]
        · rw [if_neg h2, if_neg h2]
  rw [e]
  refine List.Perm.map F ?_
  have hnd : ((List.range n).map (swapF id a b)).Nodup := by
    unfold List.Nodup
    rw [List.pairwise_map]
    refine List.Pairwise.imp_of_mem ?_ List.pairwise_lt_range
    intro i j _ _ hij
    simp only [swapF, id]
    repeat' split
    all_goals omega
  rw [List.perm_ext_iff_of_nodup hnd List.nodup_range]
  intro k
  constructor
  · intro hk
    obtain ⟨i, hi, rfl⟩ := List.mem_map.1 hk
    have := List.mem_range.1 hi
    simp only [swapF, id]
    rw [List.mem_range]
    split
    · exact hb
    · split
      · exact ha
      · exact this
  · intro hk
    have := List.mem_range.1 hk
    refine List.mem_map.2 ⟨swapF id a b k, ?_, ?_⟩
    · rw [List.mem_range]
      simp only [swapF, id]
      split
      · exact hb
      · split
        · exact ha
        · exact this
    · simp only [swapF, id]
      by_cases h1 : k = a
      · subst h1; simp
      · rw [if_neg h1]
        by_cases h2 : k = b
        · subst h2; simp
        · rw [if_neg h2, if_neg h1, if_neg h2]
/-- In falling order, but for what stands at k. -/
def Fall (F : Nat → Nat) (n k : Nat) : Prop := ∀ a b, a < b → b < n → b ≠ k → F b ≤ F a
theorem Fall.step {F : Nat → Nat} {n k : Nat} (h : Fall F n k) (hk : 0 < k) (hn : k < n) (hx : F (k - 1) < F k) : Fall (swapF F k (k - 1)) n (k - 1) := by
  intro a b hab hb hne
  simp only [swapF]
  by_cases h1 : b = k
  · subst h1
    rw [if_pos rfl]
    by_cases h2 : a = b - 1
    · subst h2; rw [if_neg (by omega), if_pos rfl]; omega
    · rw [if_neg (by omega), if_neg h2]
      exact h a (b - 1) (by omega) (by omega) (by omega)
  · rw [if_neg h1, if_neg hne]
    by_cases h2 : a = k
    · subst h2; rw [if_pos rfl]; exact h (a - 1) b (by omega) hb (by omega)
    · rw [if_neg h2]
      by_cases h3 : a = k - 1
      · subst h3; rw [if_pos rfl]
        have := h (k - 1) b (by omega) hb h1
        omega
      · rw [if_neg h3]; exact h a b hab hb (by omega)
theorem Fall.done {F : Nat → Nat} {n k : Nat} (h : Fall F n k) (hk : k = 0 ∨ F k ≤ F (k - 1)) : ∀ a b, a < b → b < n → F b ≤ F a := by
  intro a b hab hb
  by_cases hbk : b = k
  · subst hbk
    rcases hk with hk | hk
    · omega
    · by_cases ha : a = b - 1
      · rw [ha]; exact hk
      · exact Nat.le_trans hk (h a (b - 1) (by omega) (by omega) (by omega))
  · exact h a b hab hb hbk
/-- pack.Lens, of counts that all count, wherever they lie. -/
theorem lens_all (g n cp M : Nat) (F : Nat → Nat) (w : World) (hS : SlOf (Zn .i64) 1 w (some ⟨g, 0, none⟩) (ctL F n)) (hn : n ≤ 320) (hF : ∀ i, i < n → F i ≤ 1073741824) (h1 : 1 ≤ M) (h2 : M ≤ 15) :
    Calls Try.prog 27 #[.slice (some ⟨g, 0, none⟩) n cp, .int .i64 (M : Int)] w fun e w' => Fr [] w w' ∧ (M < needN (posN F n : Int) ∧ e = .returned (.tuple #[.slice none 0 0, .int .i64 2]) ∨ needN (posN F n : Int) ≤ M ∧ ∃ gl, e = .returned (.tuple #[.slice (some ⟨gl, 0, none⟩) n n, .int .i64 0]) ∧ w.heap.size ≤ gl ∧ Nrow w' gl 5 .u8 n (lenS (ctL F n) M)) := by
  have h := lens_any (some ⟨g, 0, none⟩) cp (ctL F n) (M : Int) w hS (by rw [ctL_len]; omega) (by omega) (by omega)
  rw [ctL_len, Int.toNat_natCast] at h
  refine h.mono fun e w' ⟨k1, k2⟩ => ⟨k1, ?_⟩
  rcases k2 with ⟨k2, k3⟩ | ⟨k2, k3⟩
  · exact .inl ⟨(ctL_bad hn hF h1 h2).1 k2, k3⟩
  · rw [ctL_bad hn hF h1 h2] at k2
    exact .inr ⟨by omega, k3⟩
theorem sl_own {w : World} {B g n cap : Nat} {F : Nat → Nat} (h : w.ownsRow B 3 1 (.slice (some ⟨g, 0, none⟩) n cap) n (ivs n F)) : SlOf (Zn .i64) 1 w (some ⟨g, 0, none⟩) (ctL F n) := fun _ => by
  obtain ⟨cur, hg⟩ := own_blk h
  refine ⟨g, 0, rfl, lt_of hg, fun i x hi j u hu => ?_⟩
  have hj : j = 0 := by
    have := (List.getElem?_eq_some_iff.1 hu).1
    simp [Zn] at this
    exact this
  subst hj
  obtain ⟨hin, rfl⟩ := ctL_of hi
  rw [Nat.zero_add, Nat.mul_one, Nat.add_zero, own_cell h i hin, ← hu]
  rfl
theorem posN_all {F : Nat → Nat} (h : ∀ i, 0 < F i) : ∀ n, posN F n = n
  | 0 => rfl
  | n + 1 => by rw [posN, posN_all h n, if_pos (h n)]
theorem need_iff {n M : Nat} (h1 : 1 ≤ M) : needN (n : Int) ≤ M ↔ n ≤ 2 ^ M := by
  refine ⟨need_room, fun h => ?_⟩
  unfold needN
  by_cases h0 : (n : Int) < 1
  · rw [if_pos h0]; omega
  · rw [if_neg h0]
    by_cases h3 : (n : Int) < 3
    · rw [if_pos h3]; omega
    · rw [if_neg h3]
      refine (bl_le _ M).2 ?_
      omega
/-- What holds at the head of a round of PackBest's outer loop. -/
def OutB (w : World) (n : Nat) (C : Nat → Nat) (v6 v7 v8 : Value) (wr : World) : Prop :=
  ∃ (i : Nat) (u6 u7 : Value) (F : Nat → Nat), u6 = v6 ∧ u7 = v7 ∧ v8 = .int .i64 (i : Int) ∧ i ≤ n ∧ wr.ownsRow w.heap.size 3 1 v6 i (ivs i C) ∧ wr.ownsRow w.heap.size 3 1 v7 i (ivs i F) ∧ (v7.ownBlock = none ∨ v7.ownBlock ≠ v6.ownBlock) ∧
    ((List.range i).map F).Perm ((List.range i).map C) ∧ (∀ a b, a < b → b < i → F b ≤ F a) ∧ Below w.heap.size w wr
/-- What holds at the head of a round of its inner loop. -/
def InB (w : World) (i g6 c6 g7 c7 : Nat) (C : Nat → Nat) (v9 : Value) (wr : World) : Prop :=
  ∃ (k : Nat) (F : Nat → Nat), v9 = .int .i64 (k : Int) ∧ k ≤ i ∧ wr.ownsRow w.heap.size 3 1 (.slice (some ⟨g6, 0, none⟩) (i + 1) c6) (i + 1) (ivs (i + 1) C) ∧ wr.ownsRow w.heap.size 3 1 (.slice (some ⟨g7, 0, none⟩) (i + 1) c7) (i + 1) (ivs (i + 1) F) ∧
    ((List.range (i + 1)).map F).Perm ((List.range (i + 1)).map C) ∧ Fall F (i + 1) k ∧ Below w.heap.size w wr
end Go.Proofs.Ytciejmlhdmjajaa
namespace Go.Proofs.Ytciejmlhdmjajaa
open Go.RowKit
set_option linter.unusedVariables false
set_option linter.unusedSimpArgs false

theorem needN_eq {n k : Nat} (h0 : 1 ≤ n) (hk : 1 ≤ k) (h1 : n ≤ 2 ^ k) (h2 : k = 1 ∨ 2 ^ (k - 1) < n) : needN (n : Int) = k := by
  refine Nat.le_antisymm ((need_iff hk).2 h1) ?_
  rcases h2 with rfl | h2
  · unfold needN
    rw [if_neg (by omega)]
    by_cases h3 : (n : Int) < 3
    · rw [if_pos h3]; exact Nat.le_refl _
    · rw [if_neg h3]
      rcases Nat.eq_zero_or_pos (bl ((n : Int) - 1).toNat) with h | h
      · have := (bl_le ((n : Int) - 1).toNat 0).1 (by omega); omega
      · exact h
  · rcases Nat.lt_or_ge (needN (n : Int)) k with h | h
    · exfalso
      have := need_room (n := n) (k := k - 1) (by omega)
      omega
    · exact h
set_option maxRecDepth 100000 in
set_option maxHeartbeats 1600000 in
theorem refNeeds_any (n : Int) (w : World) (h0 : -9223372036854775808 ≤ n) (h1 : n ≤ 1099511627776) :
    Calls Try.prog 54 #[.int .i64 n] w fun e w' => e = .returned (.int .i64 (needN n : Nat)) ∧ w' = w := by
  by_cases ha : n < 1
  · have HE := Lib.hid (show needN n = 0 by unfold needN; rw [if_pos ha])
    go_enter Try.func54, Try.ntmps54
    go_wp2_with fail
    go_ret
    rw [HE.out]
    exact ⟨rfl, rfl⟩
  · obtain ⟨m, rfl⟩ : ∃ m : Nat, n = (m : Int) := ⟨n.toNat, by omega⟩
    have hm1 : 1 ≤ (m : Int) := by omega
    clear ha h0
    go_enter Try.func54, Try.ntmps54
    go_wp2_with fail
    go_loop [3, 4] (fun v3 v4 => ∃ k r : Nat, v3 = .int .i64 (k : Int) ∧ v4 = .int .i64 (r : Int) ∧ r = 2 ^ k ∧ 1 ≤ k ∧ (k = 1 ∨ 2 ^ (k - 1) < m)) (fun _ v4 => m - (intOf v4).toNat)
    case atStart => exact ⟨1, 2, rfl, rfl, rfl, Nat.le_refl _, .inl rfl⟩
    case round =>
      obtain ⟨k, r, rfl, rfl, hr, hk1, hk2⟩ := hrel
      have hkb : k ≤ 41 := by
        rcases hk2 with h | h
        · omega
        · rcases Nat.lt_or_ge 41 k with h41 | h41
          · have : 2 ^ 41 ≤ 2 ^ (k - 1) := Nat.pow_le_pow_right (by decide) (by omega)
            omega
          · exact h41
      have hrb : r ≤ 2 ^ 41 := by rw [hr]; exact Nat.pow_le_pow_right (by decide) hkb
      have hrb2 : (r : Int) ≤ 2199023255552 := by omega
      have hkb2 : (k : Int) ≤ 41 := by omega
      have hr0 : 0 < r := by rw [hr]; exact Nat.two_pow_pos _
      obtain ⟨r2, hr2⟩ : ∃ r2, 2 * r = r2 := ⟨_, rfl⟩
      have er2 : (2 : Int) * (r : Int) = (r2 : Int) := by omega
      have hlt2 : r < r2 := by omega
      have HK := Lib.hid (And.intro hr (And.intro hk1 (And.intro hk2 hr2)))
      by_cases hrm : r < m
      · have hrmi : (r : Int) < (m : Int) := by omega
        have hr2b : (r2 : Int) ≤ 4398046511104 := by omega
        clear hr hk1 hk2 hrb hr2 hkb
        go_wp2
        refine ⟨⟨k + 1, r2, by go_num, rfl, ?_, by omega, .inr ?_⟩, by simp [intOf]; omega⟩
        · rw [← HK.out.2.2.2, HK.out.1, Nat.pow_succ]; omega
        · rw [Nat.add_sub_cancel, ← HK.out.1]; exact hrm
      · have hrd : decide (r < m) = false := by simp; omega
        have HE := Lib.hid (show needN (m : Int) = k from needN_eq (by omega) hk1 (by omega) hk2)
        clear hr hk1 hk2 hrb hr2 hkb hrm
        go_wp2
        go_ret
        rw [HE.out]
        exact ⟨rfl, rfl⟩

/-- In rising order, but for what stands at k. -/
def Rise (W F : Nat → Nat) (n k : Nat) : Prop := ∀ a b, a < b → b < n → b ≠ k → ltS W (F a) (F b)
theorem ltS_trans {W : Nat → Nat} {x y z : Nat} (h : ltS W x y) (k : ltS W y z) : ltS W x z := by unfold ltS at *; omega
theorem Rise.step {W F : Nat → Nat} {n k : Nat} (h : Rise W F n k) (hk : 0 < k) (hn : k < n) (hx : W (F k) < W (F (k - 1))) : Rise W (swapF F k (k - 1)) n (k - 1) := by
  intro a b hab hb hne
  simp only [swapF]
  by_cases h1 : b = k
  · subst h1
    rw [if_pos rfl]
    by_cases h2 : a = b - 1
    · subst h2; rw [if_neg (by omega), if_pos rfl]; exact .inl hx
    · rw [if_neg (by omega), if_neg h2]
      exact h a (b - 1) (by omega) (by omega) (by omega)
  · rw [if_neg h1, if_neg hne]
    by_cases h2 : a = k
    · subst h2; rw [if_pos rfl]; exact h (a - 1) b (by omega) hb (by omega)
    · rw [if_neg h2]
      by_cases h3 : a = k - 1
      · subst h3; rw [if_pos rfl]
        have := h (k - 1) b (by omega) hb h1
        unfold ltS at this ⊢
        left; omega
      · rw [if_neg h3]; exact h a b hab hb (by omega)
theorem Rise.done {W F : Nat → Nat} {n k : Nat} (h : Rise W F n k) (hk : k = 0 ∨ ltS W (F (k - 1)) (F k)) : ∀ a b, a < b → b < n → ltS W (F a) (F b) := by
  intro a b hab hb
  by_cases hbk : b = k
  · subst hbk
    rcases hk with hk | hk
    · omega
    · by_cases ha : a = b - 1
      · rw [ha]; exact hk
      · exact ltS_trans (h a (b - 1) (by omega) (by omega) (by omega)) hk
  · exact h a b hab hb hbk
end Go.Proofs.Ytciejmlhdmjajaa
namespace Go.Proofs.Ytciejmlhdmjajaa
open Go.RowKit
set_option linter.unusedVariables false
set_option linter.unusedSimpArgs false

theorem cntL_take (l : List Int) (j : Nat) (c : Int) (h : l[j]? = some c) : cntL 0 (l.take (j + 1)) = cntL 0 (l.take j) ++ if 0 < c then [(c.toNat, j)] else [] := by
  have hj := (List.getElem?_eq_some_iff.1 h).1
  rw [List.take_add_one, h, Option.toList_some, cntL_append, Nat.zero_add, List.length_take, Nat.min_eq_left (by omega)]
  congr 1
theorem cntL_len_le : ∀ (xs : List Int) (s : Nat), (cntL s xs).length ≤ xs.length
  | [], s => by simp [cntL]
  | c :: xs, s => by
    have := cntL_len_le xs (s + 1)
    rw [cntL]; split <;> simp <;> omega
/-- The symbols that count, as they stand. -/
def sy0 (l : List Int) (k : Nat) : Nat := ((cntL 0 l).getD k (0, 0)).2
def wt0 (l : List Int) (s : Nat) : Nat := (l.getD s 0).toNat
theorem sy0_list (l : List Int) : ivs (cntL 0 l).length (sy0 l) = (cntL 0 l).map fun p => Value.int .i64 (p.2 : Int) := by
  apply List.ext_getElem?
  intro i
  unfold ivs sy0
  by_cases hi : i < (cntL 0 l).length
  · simp [hi]
  · rw [List.getElem?_eq_none (by simp; omega), List.getElem?_eq_none (by simp; omega)]
theorem sy0_up (l : List Int) {a b : Nat} (h : a < b) (hb : b < (cntL 0 l).length) : sy0 l a < sy0 l b := by
  have := List.pairwise_iff_getElem.1 (cntL_up l 0) a b (by omega) hb h
  unfold sy0
  rw [List.getD_eq_getElem?_getD, List.getD_eq_getElem?_getD, List.getElem?_eq_getElem (by omega), List.getElem?_eq_getElem hb]
  exact this
theorem sy0_is (l : List Int) {k : Nat} (h : k < (cntL 0 l).length) : ∃ c, l[sy0 l k]? = some c ∧ 0 < c ∧ (cntL 0 l)[k]? = some (wt0 l (sy0 l k), sy0 l k) := by
  have hm : (cntL 0 l)[k] ∈ cntL 0 l := List.getElem_mem h
  obtain ⟨i, c, h1, h2, h3⟩ := (cntL_mem l 0 _).1 hm
  have e : sy0 l k = i := by
    unfold sy0
    rw [List.getD_eq_getElem?_getD, List.getElem?_eq_getElem h, Option.getD_some, h3, Nat.zero_add]
  refine ⟨c, by rw [e]; exact h1, h2, ?_⟩
  rw [List.getElem?_eq_getElem h, h3, e]
  unfold wt0
  rw [List.getD_eq_getElem?_getD, h1, Option.getD_some, Nat.zero_add]
/-- Sorted symbols are the sorted row's. -/
theorem sy_sorted (l : List Int) (F : Nat → Nat) (n : Nat) (hn : n = (cntL 0 l).length) (hp : ((List.range n).map F).Perm ((List.range n).map (sy0 l))) (hs : ∀ a b, a < b → b < n → ltS (wt0 l) (F a) (F b)) : (List.range n).map (fun k => (wt0 l (F k), F k)) = sortC l := by
  refine sortC_of ?_ ?_
  · have h1 := hp.map fun s => (wt0 l s, s)
    rw [List.map_map, List.map_map] at h1
    refine h1.trans (List.Perm.of_eq ?_)
    subst hn
    apply List.ext_getElem?
    intro i
    by_cases hi : i < (cntL 0 l).length
    · obtain ⟨c, _, _, h3⟩ := sy0_is l hi
      rw [h3, List.getElem?_map, List.getElem?_range hi]; rfl
    · rw [List.getElem?_eq_none (by simp; omega), List.getElem?_eq_none (by omega)]
  · rw [List.pairwise_map]
    refine List.Pairwise.imp_of_mem ?_ List.pairwise_lt_range
    intro i j _ hj hij
    have := hs i j hij (List.mem_range.1 hj)
    unfold ltS at this
    unfold lexB
    simp only [decide_eq_true_eq]
    omega
/-- What holds at the head of a round of the sorting loops. -/
def SymO (w : World) (l : List Int) (n g cap i : Nat) (F : Nat → Nat) (wr : World) : Prop :=
  wr.ownsRow w.heap.size 3 1 (.slice (some ⟨g, 0, none⟩) n cap) n (ivs n F) ∧ ((List.range n).map F).Perm ((List.range n).map (sy0 l)) ∧ (∀ s, i ≤ s → s < n → F s = sy0 l s) ∧ Below w.heap.size w wr
def SymR (w : World) (l : List Int) (n g cap : Nat) (v5 : Value) (wr : World) : Prop :=
  ∃ (i : Nat) (F : Nat → Nat), v5 = .int .i64 (i : Int) ∧ i ≤ n ∧ SymO w l n g cap i F wr ∧ (∀ a b, a < b → b < i → ltS (wt0 l) (F a) (F b)) ∧ ∀ a, a < i → ∃ b, b < i ∧ F a = sy0 l b
def SymI (w : World) (l : List Int) (n g cap i : Nat) (v6 : Value) (wr : World) : Prop :=
  ∃ (k : Nat) (F : Nat → Nat), v6 = .int .i64 (k : Int) ∧ k ≤ i ∧ SymO w l n g cap (i + 1) F wr ∧ Rise (wt0 l) F (i + 1) k ∧ F k = sy0 l i ∧ (∀ a, a < i + 1 → a ≠ k → F a < sy0 l i) ∧ ∀ a, a < i + 1 → ∃ b, b < i + 1 ∧ F a = sy0 l b
end Go.Proofs.Ytciejmlhdmjajaa
namespace Go.Proofs.Ytciejmlhdmjajaa
open Go.RowKit
set_option linter.unusedVariables false
set_option linter.unusedSimpArgs false

/-- What holds at the head of a round of the loop that collects. -/
def ColR (w : World) (l : List Int) (v3 v4 : Value) (wr : World) : Prop :=
  ∃ (j : Nat) (u3 : Value), u3 = v3 ∧ v4 = .int .i64 (j : Int) ∧ j ≤ l.length ∧ wr.ownsRow w.heap.size 3 1 v3 (cntL 0 (l.take j)).length ((cntL 0 (l.take j)).map fun p => Value.int .i64 (p.2 : Int)) ∧ Below w.heap.size w wr
set_option maxRecDepth 2000000 in
set_option maxHeartbeats 6400000 in
theorem symbols_any (a : Option Addr) (c : Nat) (l : List Int) (w : World) (hs : SlOf (Zn .i64) 1 w a l) (hl : l.length ≤ 320) (hb : ∀ x ∈ l, 0 ≤ x ∧ x ≤ 1073741824) :
    Calls Try.prog 53 #[.slice a l.length c] w fun e w' => ∃ v F, e = .returned v ∧ w'.ownsRow w.heap.size 3 1 v (sortC l).length (ivs (sortC l).length F) ∧ (List.range (sortC l).length).map (fun k => (wt0 l (F k), F k)) = sortC l ∧ Below w.heap.size w w' := by
  have hl1 : (l.length : Int) ≤ 320 := by omega
  have HX := Lib.hid (And.intro hs (And.intro hl hb))
  clear hs hl hb
  go_enter Try.func53, Try.ntmps53
  go_wp2_with fail
  go_loopw [3, 4] (fun v3 v4 wr => ColR w l v3 v4 wr) (fun _ v4 _ => l.length - (intOf v4).toNat)
  case atStart => exact ⟨0, _, rfl, rfl, Nat.zero_le _, by simpa [cntL] using World.ownsRow_nil _ _ _ _, Below.refl _ _⟩
  case round =>
    obtain ⟨j, u3, rfl, rfl, hj, hown, hbel⟩ := hrel
    by_cases hjl : j < l.length
    · have hji : (j : Int) < (l.length : Int) := by omega
      obtain ⟨x, hx⟩ : ∃ x, l[j]? = some x := ⟨l[j], List.getElem?_eq_getElem hjl⟩
      obtain ⟨g1, o1, rfl, hb1, hc1⟩ := HX.out.1 (by intro h; rw [h] at hx; simp at hx)
      have c00 := hc1 j x hx 0 (.int .i64 x) rfl
      rw [Nat.mul_one, Nat.add_zero] at c00
      have c1 : wr.cell? ⟨g1, o1 + j, none⟩ = some (.int .i64 x) := by rw [hbel.cell (p := ⟨g1, o1 + j, none⟩) hb1]; exact c00
      obtain ⟨hx0, hx1⟩ := HX.out.2.2 x (List.mem_of_getElem? hx)
      have hct := cntL_take l j x hx
      have hcl := cntL_len_le (l.take j) 0
      rw [List.length_take] at hcl
      obtain ⟨m, hm⟩ : ∃ m, (cntL 0 (l.take j)).length = m := ⟨_, rfl⟩
      rw [hm] at hown hcl
      have hm320 : m ≤ 320 := by omega
      have hsz := hbel.size
      have HO := Lib.hid hown
      have HB := Lib.hid hbel
      by_cases hpos : 0 < x
      · rw [if_pos hpos] at hct
        have HC := Lib.hid (And.intro hct hm)
        clear hct hm hcl hown hbel hx hc1 c00 hx0
        go_wp2_with (first | (at_builtin; go_must (refine wpList_push w.heap.size w wr rfl (.tmp 19) (.tmp 21) 63 rfl 3 1 8 elemI u3 m _ rfl HO HB hsz #[.int .i64 (j : Int)] 1 1 rfl rfl rfl (by omega) (by omega) (by omega) ?_); intro g5 c5 w5 HQ))
        go_roundw
        case rel =>
          refine ⟨j + 1, _, rfl, by go_num, by omega, ?_, HQ.out.below⟩
          have := HQ.out.own
          rw [HC.out.1, List.length_append, List.map_append, HC.out.2]
          exact this
        case measure => simp [intOf]; omega
      · rw [if_neg hpos, List.append_nil] at hct
        have HC := Lib.hid (And.intro hct hm)
        have hpos' : x ≤ 0 := by omega
        clear hct hm hcl hown hbel hx hc1 c00 hx0 hpos
        go_wp2_with fail
        go_roundw
        case rel => exact ⟨j + 1, _, rfl, by go_num, by omega, by rw [HC.out.1, HC.out.2]; exact HO.out, HB.out⟩
        case measure => simp [intOf]; omega
    · have hje : j = l.length := by omega
      rw [hje, List.take_length] at hown
      obtain ⟨n, hn⟩ : ∃ n, (cntL 0 l).length = n := ⟨_, rfl⟩
      have hnS : (sortC l).length = n := by rw [(sortC_perm l).length_eq, hn]
      have hn320 : n ≤ 320 := by have := cntL_len_le l 0; have := HX.out.2.1; omega
      have hown2 : wr.ownsRow w.heap.size 3 1 u3 n (ivs n (sy0 l)) := by
        have := sy0_list l
        rw [hn] at this
        rw [this, ← hn]; exact hown
      have hjd : decide (j < l.length) = false := by simp; omega
      rcases hown2.2 with ⟨hv, h0⟩ | ⟨g, cap, cur, hv, _⟩
      · subst hv
        subst h0
        have HE := Lib.hid (And.intro hown2 (And.intro hnS (And.intro hbel hn)))
        clear hown hown2 hnS hbel hn
        go_wp2_with fail
        go_loopw [5, 6, 7] (fun v5 _ _ wx => v5 = .int .i64 0 ∧ wx = wr) (fun _ _ _ _ => 0)
        case atStart => exact ⟨rfl, rfl⟩
        case round =>
          obtain ⟨rfl, hw⟩ := hrel
          replace hw := hw.symm
          subst hw
          go_wp2_with fail
          go_ret
          obtain ⟨e1, e2, e3, e4⟩ := HE.out
          rw [e2]
          refine ⟨_, sy0 l, rfl, e1, ?_, e3⟩
          rw [List.eq_nil_of_length_eq_zero e2]; rfl
      · subst hv
        have hni : (n : Int) ≤ 320 := by omega
        have HE := Lib.hid (And.intro hown2 (And.intro hnS (And.intro hbel hn)))
        clear hown hown2 hnS hbel hn
        go_wp2_with fail
        go_loopw [5, 6, 7] (fun v5 _ _ wx => SymR w l n g cap v5 wx) (fun v5 _ _ _ => n - (intOf v5).toNat)
        case atStart => exact ⟨0, sy0 l, rfl, Nat.zero_le _, ⟨HE.out.1, List.Perm.refl _, fun s _ _ => rfl, HE.out.2.2.1⟩, fun a b _ hb => by omega, fun a ha => by omega⟩
        case round =>
          obtain ⟨i, F, rfl, hi, ⟨hown, hperm, hrest, hbel⟩, hsort, hof⟩ := hrel
          by_cases hin : i < n
          · have hii : (i : Int) < (n : Int) := by omega
            have hlen : n = (cntL 0 l).length := HE.out.2.2.2.symm
            have HI := Lib.hid (show SymI w l n g cap i (.int .i64 (i : Int)) _ from ⟨i, F, rfl, Nat.le_refl _, ⟨hown, hperm, fun s h1 h2 => hrest s (by omega) h2, hbel⟩, fun a b hab hb hne => hsort a b hab (by omega), hrest i (Nat.le_refl _) hin, fun a ha hne => by
              obtain ⟨b, hb, e⟩ := hof a (by omega)
              rw [e]; exact sy0_up l hb (by omega), fun a ha => by
              by_cases hai : a = i
              · subst hai; exact ⟨a, by omega, hrest a (Nat.le_refl _) hin⟩
              · obtain ⟨b, hb, e⟩ := hof a (by omega)
                exact ⟨b, by omega, e⟩⟩)
            clear hown hperm hrest hbel hsort hof
            go_wp2_with fail
            go_loopw [6, 7] (fun v6 _ wx => SymI w l n g cap i v6 wx) (fun v6 _ _ => (intOf v6).toNat)
            case atStart => exact HI.out
            case round =>
              clear HI
              obtain ⟨k, F, rfl, hki, ⟨hown, hperm, hrest, hbel⟩, hrise, hFk, hlt, hof⟩ := hrel
              have hkii : (k : Int) ≤ (i : Int) := by omega
              by_cases hk0 : k = 0
              · have hk0i : (k : Int) ≤ 0 := by omega
                have hk0d : decide (0 < (k : Int)) = false := by simp; omega
                have hk0n : decide (0 < k) = false := by simp; omega
                have HF := Lib.hid (And.intro hown (And.intro hperm (And.intro hrest (And.intro hbel (And.intro (hrise.done (.inl hk0)) hof)))))
                clear hown hperm hrest hbel hrise hFk hlt hof hk0
                go_wp2_with fail
                refine wp_region_quiet_tail 19 (by kernel_rfl) (by kernel_rfl) ?_
                simp only [List.take_succ_cons, List.take_zero, List.drop_succ_cons, List.drop_zero]
                repeat go_big_quiet_step (fail)
                refine wpQuiet_nil ?_
                go_wp2_with fail
                go_roundw
                case rel =>
                  obtain ⟨h1, h2, h3, h4, h5, h6⟩ := HF.out
                  exact ⟨i + 1, F, by go_num, by omega, ⟨ownsRow_to h1 (Fr.drew (Fr.refl [] _)) (by simp), h2, h3, (Fr.drew (Fr.refl [] _)).out h4 (by simp)⟩, h5, h6⟩
                case measure => simp [intOf]; omega
              · obtain ⟨k1, hk1⟩ : ∃ k1, k - 1 = k1 := ⟨_, rfl⟩
                have ek1 : (k : Int) - 1 = (k1 : Int) := by omega
                have hk0i : 0 < (k : Int) := by omega
                have hk0n : 0 < k := by omega
                have hk1i : (k1 : Int) < (n : Int) := by omega
                have hki1 : (k : Int) < (n : Int) := by omega
                have d1 := own_cell hown k (by omega)
                have d2 := own_cell hown k1 (by omega)
                obtain ⟨cur', hcur⟩ := own_blk hown
                have fz1 := free_of hcur k
                have fz2 := free_of hcur k1
                have hglt := lt_of hcur
                have hlen : n = (cntL 0 l).length := HE.out.2.2.2.symm
                obtain ⟨b1, hb1, e1⟩ := hof k (by omega)
                obtain ⟨b2, hb2, e2⟩ := hof k1 (by omega)
                obtain ⟨ca, ca1, ca2, _⟩ := sy0_is l (k := b1) (by omega)
                obtain ⟨cb, cb1, cb2, _⟩ := sy0_is l (k := b2) (by omega)
                rw [← e1] at ca1
                rw [← e2] at cb1
                have hltk := hlt k1 (by omega) (by omega)
                obtain ⟨u, hu⟩ : ∃ u, F k = u := ⟨_, rfl⟩
                obtain ⟨v, hv⟩ : ∃ v, F k1 = v := ⟨_, rfl⟩
                rw [hu] at d1 ca1
                rw [hv] at d2 cb1 hltk
                have hul := (List.getElem?_eq_some_iff.1 ca1).1
                have hvl := (List.getElem?_eq_some_iff.1 cb1).1
                have huli : (u : Int) < (l.length : Int) := by omega
                have hvli : (v : Int) < (l.length : Int) := by omega
                obtain ⟨g1, o1, rfl, hgb, hc1⟩ := HX.out.1 (by intro h; rw [h] at ca1; simp at ca1)
                have q1 := hc1 u ca ca1 0 (.int .i64 ca) rfl
                have q2 := hc1 v cb cb1 0 (.int .i64 cb) rfl
                rw [Nat.mul_one, Nat.add_zero] at q1 q2
                have r1 : wr.cell? ⟨g1, o1 + u, none⟩ = some (.int .i64 ca) := by rw [hbel.cell (p := ⟨g1, o1 + u, none⟩) hgb]; exact q1
                have r2 : wr.cell? ⟨g1, o1 + v, none⟩ = some (.int .i64 cb) := by rw [hbel.cell (p := ⟨g1, o1 + v, none⟩) hgb]; exact q2
                have hcab := HX.out.2.2 ca (List.mem_of_getElem? ca1)
                have hcbb := HX.out.2.2 cb (List.mem_of_getElem? cb1)
                obtain ⟨hcab1, hcab2⟩ := hcab
                obtain ⟨hcbb1, hcbb2⟩ := hcbb
                have wu : wt0 l u = ca.toNat := by unfold wt0; rw [List.getD_eq_getElem?_getD, ca1, Option.getD_some]
                have wv : wt0 l v = cb.toNat := by unfold wt0; rw [List.getD_eq_getElem?_getD, cb1, Option.getD_some]
                have hg1b : g1 < w.heap.size := hgb
                have hgg := (hown.lt g rfl).1
                have hgne : g ≠ g1 := by omega
                by_cases hlt2 : ca < cb
                · have hsw1 := own_set (G := fun j => if j = k then v else F j) hown (k := k) (y := v) (fun j _ => rfl)
                  have hsw2 := own_set (G := swapF F k k1) hsw1 (k := k1) (y := u) (fun j _ => by
                    simp only [swapF]
                    by_cases h1 : j = k
                    · rw [if_pos h1, if_neg (by omega), if_pos h1, hv]
                    · rw [if_neg h1, if_neg h1]
                      by_cases h2 : j = k1
                      · rw [if_pos h2, if_pos h2, hu]
                      · rw [if_neg h2, if_neg h2])
                  have hf2 : Fr [g] wr ((wr.setCell ⟨g, k, none⟩ (.int .i64 (v : Int))).setCell ⟨g, k1, none⟩ (.int .i64 (u : Int))) := (Fr.setCell _ _ _ _).trans (Fr.setCell _ _ _ _)
                  have hp2 := (swap_perm n k k1 F (by omega) (by omega)).trans hperm
                  have hrs : Rise (wt0 l) (swapF F k k1) (i + 1) k1 := by rw [← hk1]; exact hrise.step hk0n (by omega) (by rw [hk1, hu, hv, wu, wv]; omega)
                  have hbl2 := hf2.out hbel (fun g' hg => by simp at hg; rw [hg]; exact hgg)
                  have hre : ∀ s, i + 1 ≤ s → s < n → swapF F k k1 s = sy0 l s := fun s h1 h2 => by
                    simp only [swapF]; rw [if_neg (by omega), if_neg (by omega)]; exact hrest s h1 h2
                  have hx2 : swapF F k k1 k1 = sy0 l i := by unfold swapF; rw [if_neg (by omega), if_pos rfl]; exact hFk
                  have hlt3 : ∀ a, a < i + 1 → a ≠ k1 → swapF F k k1 a < sy0 l i := fun a h1 h2 => by
                    simp only [swapF]
                    by_cases h3 : a = k
                    · rw [if_pos h3]; exact hlt k1 (by omega) (by omega)
                    · rw [if_neg h3, if_neg h2]; exact hlt a h1 h3
                  have hof3 : ∀ a, a < i + 1 → ∃ b, b < i + 1 ∧ swapF F k k1 a = sy0 l b := fun a h1 => by
                    simp only [swapF]
                    by_cases h3 : a = k
                    · rw [if_pos h3]; exact hof k1 (by omega)
                    · rw [if_neg h3]
                      by_cases h4 : a = k1
                      · rw [if_pos h4]; exact hof k (by omega)
                      · rw [if_neg h4]; exact hof a h1
                  have HF := Lib.hid (And.intro hsw2 (And.intro hp2 (And.intro hre (And.intro hbl2 (And.intro hrs (And.intro hx2 (And.intro hlt3 hof3)))))))
                  clear hown hperm hrest hbel hrise hFk hlt hof hcur hu hv hsw1 hsw2 hf2 hp2 hrs hbl2 hre hx2 hlt3 hof3 hk0 hc1 q1 q2 wu wv ca1 cb1 e1 e2 hb1 hb2
                  go_wp2_with fail
                  refine wp_region_quiet_tail 19 (by kernel_rfl) (by kernel_rfl) ?_
                  simp only [List.take_succ_cons, List.take_zero, List.drop_succ_cons, List.drop_zero]
                  repeat go_big_quiet_step (fail)
                  refine wpQuiet_nil ?_
                  go_wp2_with fail
                  obtain ⟨h1, h2, h3, h4, h5, h6, h7, h8⟩ := HF.out
                  exact ⟨⟨k1, _, rfl, by omega, ⟨ownsRow_to h1 (Fr.drew (Fr.refl [] _)) (by simp), h2, h3, (Fr.drew (Fr.refl [] _)).out h4 (by simp)⟩, h5, h6, h7, h8⟩, by simp [intOf]; omega⟩
                · have hltd : decide (ca < cb) = false := by simp; omega
                  have hle : cb ≤ ca := by omega
                  have hfin := hrise.done (.inr (by
                    rw [hk1, hu, hv]
                    unfold ltS
                    rw [wu, wv]
                    rw [← hFk, hu] at hltk
                    omega))
                  have HF := Lib.hid (And.intro hown (And.intro hperm (And.intro hrest (And.intro hbel (And.intro hfin hof)))))
                  clear hown hperm hrest hbel hrise hFk hlt hof hcur hu hv hfin hk0 hc1 q1 q2 wu wv ca1 cb1 e1 e2 hb1 hb2 hlt2
                  go_wp2_with fail
                  refine wp_region_quiet_tail 19 (by kernel_rfl) (by kernel_rfl) ?_
                  simp only [List.take_succ_cons, List.take_zero, List.drop_succ_cons, List.drop_zero]
                  repeat go_big_quiet_step (fail)
                  refine wpQuiet_nil ?_
                  go_wp2_with fail
                  go_roundw
                  case rel =>
                    obtain ⟨h1, h2, h3, h4, h5, h6⟩ := HF.out
                    exact ⟨i + 1, F, by go_num, by omega, ⟨ownsRow_to h1 (Fr.drew (Fr.refl [] _)) (by simp), h2, h3, (Fr.drew (Fr.refl [] _)).out h4 (by simp)⟩, h5, h6⟩
                  case measure => simp [intOf]; omega
          · have hie : i = n := by omega
            have hid : decide (i < n) = false := by simp; omega
            have HF := Lib.hid (And.intro hown (And.intro hperm (And.intro hbel hsort)))
            clear hown hperm hrest hbel hsort hof
            go_wp2_with fail
            go_ret
            obtain ⟨h1, h2, h3, h4⟩ := HF.out
            obtain ⟨e1, e2, e3, e4⟩ := HE.out
            rw [e2]
            exact ⟨_, F, rfl, h1, sy_sorted l F n e4.symm h2 (by rw [← hie]; exact h4), h3⟩
end Go.Proofs.Ytciejmlhdmjajaa

