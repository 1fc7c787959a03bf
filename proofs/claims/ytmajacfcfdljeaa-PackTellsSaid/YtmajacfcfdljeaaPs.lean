/- PackBest: its walk. -/
import Derived.Test.YtmajacfcfdljeaaPr
namespace Go.Proofs.Ytmajacfcfdljeaa
open Go.RowKit
set_option linter.unusedVariables false
set_option linter.unusedSimpArgs false

/-- Whole numbers, as cells. -/
def ivs (n : Nat) (F : Nat → Nat) : List Value := (List.range n).map fun j => Value.int .i64 (F j : Int)
theorem ivs_congr {n : Nat} {F G : Nat → Nat} (h : ∀ j, j < n → F j = G j) : ivs n F = ivs n G := List.map_congr_left fun j hj => by rw [h j (List.mem_range.1 hj)]
theorem ivs_snoc (n : Nat) (F : Nat → Nat) : ivs (n + 1) F = ivs n F ++ [.int .i64 (F n : Int)] := by unfold ivs; rw [List.range_succ, List.map_append]; rfl
theorem own_blk {w : World} {B g n cap : Nat} {xs : List Value} (h : w.ownsRow B 3 1 (.slice (some ⟨g, 0, none⟩) n cap) n xs) : ∃ cur, w.heap[g]? = some (.cells cur 3 (0, 0)) := by
  rcases h.2 with ⟨h1, _⟩ | ⟨g', cap', cur, he, hb, hg, _⟩
  · simp at h1
  · simp at he
    obtain ⟨rfl, _⟩ := he
    exact ⟨cur, hg⟩
theorem own_cell {w : World} {B g n cap : Nat} {F : Nat → Nat} (h : w.ownsRow B 3 1 (.slice (some ⟨g, 0, none⟩) n cap) n (ivs n F)) (k : Nat) (hk : k < n) : w.cell? ⟨g, k, none⟩ = some (.int .i64 (F k : Int)) := by
  have := h.cells (g := g) rfl k (.int .i64 (F k : Int)) (by unfold ivs; rw [List.getElem?_map, List.getElem?_range hk]; rfl)
  rwa [add_none, Nat.zero_add] at this
theorem own_set {w : World} {B g n cap : Nat} {F G : Nat → Nat} {k y : Nat} (h : w.ownsRow B 3 1 (.slice (some ⟨g, 0, none⟩) n cap) n (ivs n F)) (hG : ∀ j, j < n → G j = if j = k then y else F j) : (w.setCell ⟨g, k, none⟩ (.int .i64 (y : Int))).ownsRow B 3 1 (.slice (some ⟨g, 0, none⟩) n cap) n (ivs n G) := by
  refine ⟨by unfold ivs; simp, ?_⟩
  rcases h.2 with ⟨h1, _⟩ | ⟨g', cap', cur, he, hb, hg, hc, hm, hs, ht⟩
  · simp at h1
  · simp at he
    obtain ⟨rfl, rfl⟩ := he
    refine .inr ⟨g, cap, cur.setIfInBounds k (.int .i64 (y : Int)), rfl, hb, set_of hg k _, hc, hm, by simpa using hs, ?_⟩
    rw [Array.toList_setIfInBounds, List.take_set, ht]
    apply List.ext_getElem?
    intro i
    unfold ivs
    rw [List.getElem?_set]
    by_cases hi : i < n
    · rw [List.getElem?_map, List.getElem?_map, List.getElem?_range hi, Option.map_some, Option.map_some, hG i hi]
      by_cases hik : k = i
      · subst hik; simp [hi]
      · rw [if_neg hik, if_neg (Ne.symm hik)]
    · rw [List.getElem?_eq_none (by simp; omega), List.getElem?_eq_none (by simp; omega)]
      by_cases hik : k = i
      · subst hik; rw [if_pos rfl, if_neg (by simp; omega)]
      · rw [if_neg hik]
theorem swap_perm (n a b : Nat) (F : Nat → Nat) (ha : a < n) (hb : b < n) : ((List.range n).map (swapF F a b)).Perm ((List.range n).map F) := by
  have e : (List.range n).map (swapF F a b) = ((List.range n).map (swapF id a b)).map F := by
    rw [List.map_map]
    exact List.map_congr_left fun k _ => by
      simp only [swapF, Function.comp, id]
      by_cases h1 : k = a
      · rw [if_pos h1, if_pos h1]
      · rw [if_neg h1, if_neg h1]
        by_cases h2 : k = b
        · rw [if_pos h2, if_pos h2]
        · rw [if_neg h2, if_neg h2]
  rw [e]
  refine List.Perm.map F ?_
  have hnd : ((List.range n).map (swapF id a b)).Nodup := by
    unfold List.Nodup
    rw [List.pairwise_map]
    refine List.Pairwise.imp_of_mem ?_ List.pairwise_lt_range
    intro i j _ _ hij
    simp only [swapF, id]
    repeat' split
    all_goals omega
  rw [List.perm_ext_iff_of_nodup hnd List.nodup_range]
  intro k
  constructor
  · intro hk
    obtain ⟨i, hi, rfl⟩ := List.mem_map.1 hk
    have := List.mem_range.1 hi
    simp only [swapF, id]
    rw [List.mem_range]
    split
    · exact hb
    · split
      · exact ha
      · exact this
  · intro hk
    have := List.mem_range.1 hk
    refine List.mem_map.2 ⟨swapF id a b k, ?_, ?_⟩
    · rw [List.mem_range]
      simp only [swapF, id]
      split
      · exact hb
      · split
        · exact ha
        · exact this
    · simp only [swapF, id]
      by_cases h1 : k = a
      · subst h1; simp
      · rw [if_neg h1]
        by_cases h2 : k = b
        · subst h2; simp
        · rw [if_neg h2, if_neg h1, if_neg h2]
/-- In falling order, but for what stands at k. -/
def Fall (F : Nat → Nat) (n k : Nat) : Prop := ∀ a b, a < b → b < n → b ≠ k → F b ≤ F a
theorem Fall.step {F : Nat → Nat} {n k : Nat} (h : Fall F n k) (hk : 0 < k) (hn : k < n) (hx : F (k - 1) < F k) : Fall (swapF F k (k - 1)) n (k - 1) := by
  intro a b hab hb hne
  simp only [swapF]
  by_cases h1 : b = k
  · subst h1
    rw [if_pos rfl]
    by_cases h2 : a = b - 1
    · subst h2; rw [if_neg (by omega), if_pos rfl]; omega
    · rw [if_neg (by omega), if_neg h2]
      exact h a (b - 1) (by omega) (by omega) (by omega)
  · rw [if_neg h1, if_neg hne]
    by_cases h2 : a = k
    · subst h2; rw [if_pos rfl]; exact h (a - 1) b (by omega) hb (by omega)
    · rw [if_neg h2]
      by_cases h3 : a = k - 1
      · subst h3; rw [if_pos rfl]
        have := h (k - 1) b (by omega) hb h1
        omega
      · rw [if_neg h3]; exact h a b hab hb (by omega)
theorem Fall.done {F : Nat → Nat} {n k : Nat} (h : Fall F n k) (hk : k = 0 ∨ F k ≤ F (k - 1)) : ∀ a b, a < b → b < n → F b ≤ F a := by
  intro a b hab hb
  by_cases hbk : b = k
  · subst hbk
    rcases hk with hk | hk
    · omega
    · by_cases ha : a = b - 1
      · rw [ha]; exact hk
      · exact Nat.le_trans hk (h a (b - 1) (by omega) (by omega) (by omega))
  · exact h a b hab hb hbk
/-- pack.Lens, of counts that all count, wherever they lie. -/
theorem lens_all (g n cp M : Nat) (F : Nat → Nat) (w : World) (hS : SlOf (Zn .i64) 1 w (some ⟨g, 0, none⟩) (ctL F n)) (hn : n ≤ 320) (hF : ∀ i, i < n → F i ≤ 1073741824) (h1 : 1 ≤ M) (h2 : M ≤ 15) :
    Calls Try.prog 9 #[.slice (some ⟨g, 0, none⟩) n cp, .int .i64 (M : Int)] w fun e w' => Fr [] w w' ∧ (M < needN (posN F n : Int) ∧ e = .returned (.tuple #[.slice none 0 0, .int .i64 2]) ∨ needN (posN F n : Int) ≤ M ∧ ∃ gl, e = .returned (.tuple #[.slice (some ⟨gl, 0, none⟩) n n, .int .i64 0]) ∧ w.heap.size ≤ gl ∧ Nrow w' gl 5 .u8 n (lenS (ctL F n) M)) := by
  have h := lens_any (some ⟨g, 0, none⟩) cp (ctL F n) (M : Int) w hS (by rw [ctL_len]; omega) (by omega) (by omega)
  rw [ctL_len, Int.toNat_natCast] at h
  refine h.mono fun e w' ⟨k1, k2⟩ => ⟨k1, ?_⟩
  rcases k2 with ⟨k2, k3⟩ | ⟨k2, k3⟩
  · exact .inl ⟨(ctL_bad hn hF h1 h2).1 k2, k3⟩
  · rw [ctL_bad hn hF h1 h2] at k2
    exact .inr ⟨by omega, k3⟩
theorem sl_own {w : World} {B g n cap : Nat} {F : Nat → Nat} (h : w.ownsRow B 3 1 (.slice (some ⟨g, 0, none⟩) n cap) n (ivs n F)) : SlOf (Zn .i64) 1 w (some ⟨g, 0, none⟩) (ctL F n) := fun _ => by
  obtain ⟨cur, hg⟩ := own_blk h
  refine ⟨g, 0, rfl, lt_of hg, fun i x hi j u hu => ?_⟩
  have hj : j = 0 := by
    have := (List.getElem?_eq_some_iff.1 hu).1
    simp [Zn] at this
    exact this
  subst hj
  obtain ⟨hin, rfl⟩ := ctL_of hi
  rw [Nat.zero_add, Nat.mul_one, Nat.add_zero, own_cell h i hin, ← hu]
  rfl
theorem posN_all {F : Nat → Nat} (h : ∀ i, 0 < F i) : ∀ n, posN F n = n
  | 0 => rfl
  | n + 1 => by rw [posN, posN_all h n, if_pos (h n)]
theorem need_iff {n M : Nat} (h1 : 1 ≤ M) : needN (n : Int) ≤ M ↔ n ≤ 2 ^ M := by
  refine ⟨need_room, fun h => ?_⟩
  unfold needN
  by_cases h0 : (n : Int) < 1
  · rw [if_pos h0]; omega
  · rw [if_neg h0]
    by_cases h3 : (n : Int) < 3
    · rw [if_pos h3]; omega
    · rw [if_neg h3]
      refine (bl_le _ M).2 ?_
      omega
/-- What holds at the head of a round of PackBest's outer loop. -/
def OutB (w : World) (n : Nat) (C : Nat → Nat) (v6 v7 v8 : Value) (wr : World) : Prop :=
  ∃ (i : Nat) (u6 u7 : Value) (F : Nat → Nat), u6 = v6 ∧ u7 = v7 ∧ v8 = .int .i64 (i : Int) ∧ i ≤ n ∧ wr.ownsRow w.heap.size 3 1 v6 i (ivs i C) ∧ wr.ownsRow w.heap.size 3 1 v7 i (ivs i F) ∧ (v7.ownBlock = none ∨ v7.ownBlock ≠ v6.ownBlock) ∧
    ((List.range i).map F).Perm ((List.range i).map C) ∧ (∀ a b, a < b → b < i → F b ≤ F a) ∧ Below w.heap.size w wr
/-- What holds at the head of a round of its inner loop. -/
def InB (w : World) (i g6 c6 g7 c7 : Nat) (C : Nat → Nat) (v9 : Value) (wr : World) : Prop :=
  ∃ (k : Nat) (F : Nat → Nat), v9 = .int .i64 (k : Int) ∧ k ≤ i ∧ wr.ownsRow w.heap.size 3 1 (.slice (some ⟨g6, 0, none⟩) (i + 1) c6) (i + 1) (ivs (i + 1) C) ∧ wr.ownsRow w.heap.size 3 1 (.slice (some ⟨g7, 0, none⟩) (i + 1) c7) (i + 1) (ivs (i + 1) F) ∧
    ((List.range (i + 1)).map F).Perm ((List.range (i + 1)).map C) ∧ Fall F (i + 1) k ∧ Below w.heap.size w wr
set_option maxRecDepth 2000000 in
set_option maxHeartbeats 6400000 in
theorem packBest_walk (w : World) (a0 : Option Addr) (c0 : Nat) (x0 : List Nat) (l0 : x0.length ≤ maxLen) (s0 : SlOf (Un .u16) 1 w a0 x0) (o0 : ∀ x, x ∈ x0 → x < 65536) (a1 : Int) (w1 : (Lit.int .u8 a1).wf = true) :
    Calls Try.prog 4 #[.slice a0 x0.length c0, .int .u8 a1] w fun e w' => e = .returned (.bool true) ∧ Below w.heap.size w w' := by
  unfold maxLen at l0
  have hl1 : (x0.length : Int) ≤ 9223372036854775807 := by omega
  have HA := Lib.hid alive_any
  have ha1 : 0 ≤ a1 ∧ a1 ≤ 255 := by simp [Lit.wf, IntKind.min, IntKind.max, IntKind.signed, IntKind.bits] at w1; omega
  obtain ⟨ha3, ha4⟩ := ha1
  clear w1
  by_cases hbig : 10 < x0.length
  · have h1 : (10 : Int) < (x0.length : Int) := by omega
    clear hbig s0 o0 l0
    go_enter Try.func4, Try.ntmps4
    go_wp2_with fail
    refine (HA.out _).mono ?_
    rintro e w1 ⟨rfl, hf⟩
    have HF := Lib.hid hf
    clear hf
    go_wp2_with fail
    go_ret
    exact ⟨rfl, HF.out.below⟩
  by_cases hfew : x0.length < 2
  · have h1 : (x0.length : Int) < 2 := by omega
    clear hbig s0 o0 l0 hfew
    go_enter Try.func4, Try.ntmps4
    go_wp2_with fail
    refine (HA.out _).mono ?_
    rintro e w1 ⟨rfl, hf⟩
    have HF := Lib.hid hf
    clear hf
    go_wp2_with fail
    go_ret
    exact ⟨rfl, HF.out.below⟩
  obtain ⟨n, hn⟩ : ∃ n, x0.length = n := ⟨_, rfl⟩
  rw [hn] at hbig hfew hl1 ⊢
  have h1 : (n : Int) ≤ 10 := by omega
  have h2 : 2 ≤ (n : Int) := by omega
  have hd1 : decide ((n : Int) < 2) = false := by simp; omega
  have hd2 : decide (10 < (n : Int)) = false := by simp; omega
  obtain ⟨q, hq⟩ : ∃ q : Nat, a1 % 10 = (q : Int) := ⟨(a1 % 10).toNat, by omega⟩
  have hq9 : q ≤ 9 := by omega
  obtain ⟨M, hM⟩ : ∃ M, q + 1 = M := ⟨_, rfl⟩
  have hqi : (q : Int) ≤ 9 := by omega
  have eM : (q : Int) + 1 = (M : Int) := by omega
  have hM10 : (M : Int) ≤ 10 := by omega
  have hM1 : 1 ≤ (M : Int) := by omega
  obtain ⟨C, hC⟩ : ∃ C : Nat → Nat, C = fun s => 1 + x0.getD s 0 := ⟨_, rfl⟩
  have hCb : ∀ s, 0 < C s ∧ C s ≤ 65536 := fun s => by
    rw [hC]
    simp only [List.getD_eq_getElem?_getD]
    cases hs : x0[s]? with
    | none => simp
    | some x => have := o0 x (List.mem_of_getElem? hs); simp only [Option.getD_some]; omega
  have HX := Lib.hid (And.intro s0 (And.intro o0 (And.intro hn (And.intro hC hCb))))
  clear s0 o0 hn hC hCb hbig hfew l0 hq9 hM
  go_enter Try.func4, Try.ntmps4
  go_wp2_with fail
  try simp only [hq]
  clear hq
  go_loopw [6, 7, 8, 9, 10] (fun v6 v7 v8 _ _ wr => OutB w n C v6 v7 v8 wr) (fun _ _ v8 _ _ _ => n - (intOf v8).toNat)
  case atStart => exact ⟨0, _, _, C, rfl, rfl, rfl, Nat.zero_le _, World.ownsRow_nil _ _ _ _, World.ownsRow_nil _ _ _ _, .inl rfl, List.Perm.refl _, fun a b _ hb => by omega, Below.refl _ _⟩
  case round =>
    obtain ⟨i, u6, u7, F, rfl, rfl, rfl, hi, hown6, hown7, hne, hperm, hfall, hbel⟩ := hrel
    by_cases hin : i < n
    · have hii : (i : Int) < (n : Int) := by omega
      obtain ⟨x, hx⟩ : ∃ x, x0[i]? = some x := ⟨x0[i]'(by have := HX.out.2.2.1; omega), List.getElem?_eq_getElem _⟩
      obtain ⟨g1, o1, rfl, hb1, hc1⟩ := HX.out.1 (by intro h; rw [h] at hx; simp at hx)
      have c00 := hc1 i x hx 0 (.int .u16 (x : Int)) rfl
      rw [Nat.mul_one, Nat.add_zero] at c00
      have c1 : wr.cell? ⟨g1, o1 + i, none⟩ = some (.int .u16 (x : Int)) := by rw [hbel.cell (p := ⟨g1, o1 + i, none⟩) hb1]; exact c00
      have hx16 := HX.out.2.1 x (List.mem_of_getElem? hx)
      obtain ⟨y, hy⟩ : ∃ y, 1 + x = y := ⟨_, rfl⟩
      have ey : (1 : Int) + (x : Int) = (y : Int) := by omega
      have hCy : C i = y := by rw [HX.out.2.2.2.1]; simp only [List.getD_eq_getElem?_getD, hx, Option.getD_some]; exact hy
      have hx9 : (x : Int) ≤ 65535 := by omega
      have hy9 : (y : Int) ≤ 65536 := by omega
      have H6 := Lib.hid hown6
      have H7 := Lib.hid hown7
      have HB := Lib.hid hbel
      have hsz := hbel.size
      have HI := Lib.hid (And.intro c00 (And.intro hb1 (And.intro hCy (And.intro hne (And.intro hperm hfall)))))
      have hg1lt : g1 < wr.heap.size := by omega
      clear hown6 hown7 hbel hc1 c00 hx hx16 hy hCy hne hperm hfall
      go_upto_region 9 with (first | (at_builtin; go_must (refine wpList_push w.heap.size w wr rfl (.tmp 33) (.tmp 40) 22 rfl 3 1 8 elemI u6 i _ rfl H6 HB hsz #[.int .i64 (y : Int)] 1 1 rfl rfl rfl (by omega) (by omega) (by omega) ?_); intro g6 c6 w6 HQ6))
      have hown7 := (H7.out.alloc (.cells #[.int .i64 (y : Int)] 3)).kept HQ6.out.grown HI.out.2.2.2.1
      have H7' := Lib.hid hown7
      have HB6 := Lib.hid HQ6.out.below
      have hsz6 := HQ6.out.below.size
      have c1' : w6.cell? ⟨g1, o1 + i, none⟩ = some (.int .u16 (x : Int)) := by rw [HQ6.out.below.cell (p := ⟨g1, o1 + i, none⟩) HI.out.2.1]; exact HI.out.1
      have hg1lt6 : g1 < w6.heap.size := by have := HI.out.2.1; omega
      clear hown7 c1 hg1lt
      go_wp2_with (first | (at_builtin; go_must (refine wpList_push w.heap.size w w6 rfl (.tmp 42) (.tmp 49) 22 rfl 3 1 8 elemI u7 i _ rfl H7' HB6 hsz6 #[.int .i64 (y : Int)] 1 1 rfl rfl rfl (by omega) (by omega) (by omega) ?_); intro g7 c7 w7 HQ7))
      have hn6 : u7.ownBlock ≠ some g6 := by
        intro h7
        rcases HQ6.out.or_ with h | h
        · rcases HI.out.2.2.2.1 with h8 | h8
          · rw [h8] at h7; simp at h7
          · exact h8 (h7.trans h.symm)
        · have := (H7.out.lt g6 h7).2
          rw [show (wr.alloc (.cells #[.int .i64 (y : Int)] 3)).heap.size = wr.heap.size + 1 from Array.size_push _] at h
          omega
      have hg67 : g6 ≠ g7 := by
        intro h
        rcases HQ7.out.or_ with h7 | h7
        · exact hn6 (by rw [h7, h])
        · have := HQ6.out.lt
          rw [show (w6.alloc (.cells #[.int .i64 (y : Int)] 3)).heap.size = w6.heap.size + 1 from Array.size_push _] at h7
          omega
      have hown6 : w7.ownsRow w.heap.size 3 1 (.slice (some ⟨g6, 0, none⟩) (i + 1) c6) (i + 1) (ivs (i + 1) C) := by
        have h := (HQ6.out.own.alloc (.cells #[.int .i64 (y : Int)] 3)).kept HQ7.out.grown (.inr (by simp only [Value.ownBlock]; exact fun h => hn6 h.symm))
        rw [ivs_snoc, HI.out.2.2.1]
        exact h
      obtain ⟨F', hF'⟩ : ∃ F' : Nat → Nat, F' = fun s => if s = i then y else F s := ⟨_, rfl⟩
      have hown7 : w7.ownsRow w.heap.size 3 1 (.slice (some ⟨g7, 0, none⟩) (i + 1) c7) (i + 1) (ivs (i + 1) F') := by
        have h := HQ7.out.own
        rw [ivs_snoc, ivs_congr (F := F') (G := F) (fun j hj => by rw [hF']; simp only; rw [if_neg (by omega)]), show F' i = y by rw [hF']; simp]
        exact h
      have hperm : ((List.range (i + 1)).map F').Perm ((List.range (i + 1)).map C) := by
        rw [List.range_succ, List.map_append, List.map_append]
        have e : (List.range i).map F' = (List.range i).map F := List.map_congr_left fun j hj => by rw [hF']; simp only; rw [if_neg (by have := List.mem_range.1 hj; omega)]
        have e2 : F' i = C i := by rw [hF', HI.out.2.2.1]; simp
        rw [e, List.map_cons, List.map_cons, e2]
        exact HI.out.2.2.2.2.1.append_right _
      have hfall : Fall F' (i + 1) i := fun a b hab hb hne => by
        rw [hF']
        simp only
        rw [if_neg hne, if_neg (by omega)]
        exact HI.out.2.2.2.2.2 a b hab (by omega)
      have HS := Lib.hid (And.intro hown6 (And.intro hown7 (And.intro hperm (And.intro hfall HQ7.out.below))))
      clear hown6 hown7 hperm hfall c1' hF' hsz hsz6 hg1lt6 hn6
      go_loopw [9, 10] (fun v9 _ wr => InB w i g6 c6 g7 c7 C v9 wr) (fun v9 _ _ => (intOf v9).toNat)
      case atStart => exact ⟨i, F', rfl, Nat.le_refl _, HS.out.1, HS.out.2.1, HS.out.2.2.1, HS.out.2.2.2.1, HS.out.2.2.2.2⟩
      case round =>
        obtain ⟨k, F, rfl, hki, hown6, hown7, hperm, hfall, hbel⟩ := hrel
        have hkii : (k : Int) ≤ (i : Int) := by omega
        by_cases hk0 : k = 0
        · have hk0i : (k : Int) ≤ 0 := by omega
          have hk0d : decide (0 < (k : Int)) = false := by simp; omega
          have hk0n : decide (0 < k) = false := by simp; omega
          have HE := Lib.hid (And.intro hown6 (And.intro hown7 (And.intro hperm (And.intro (hfall.done (.inl hk0)) hbel))))
          clear hown6 hown7 hperm hfall hbel hk0
          go_wp2_with fail
          refine wp_region_quiet_tail 13 (by kernel_rfl) (by kernel_rfl) ?_
          simp only [List.take_succ_cons, List.take_zero, List.drop_succ_cons, List.drop_zero]
          repeat go_big_quiet_step (fail)
          refine wpQuiet_nil ?_
          go_wp2_with fail
          go_roundw
          case rel => exact ⟨i + 1, _, _, _, rfl, rfl, by go_num, by omega, ownsRow_to HE.out.1 (Fr.drew (Fr.refl [] _)) (by simp), ownsRow_to HE.out.2.1 (Fr.drew (Fr.refl [] _)) (by simp), .inr (by simpa [Value.ownBlock] using Ne.symm hg67), HE.out.2.2.1, HE.out.2.2.2.1, (Fr.drew (Fr.refl [] _)).out HE.out.2.2.2.2 (by simp)⟩
          case measure => simp [intOf]; omega
        · obtain ⟨k1, hk1⟩ : ∃ k1, k - 1 = k1 := ⟨_, rfl⟩
          have ek1 : (k : Int) - 1 = (k1 : Int) := by omega
          have hk0i : 0 < (k : Int) := by omega
          have hk0n : 0 < k := by omega
          have hk1i : (k1 : Int) < (i : Int) + 1 := by omega
          have hki1 : (k : Int) < (i : Int) + 1 := by omega
          have d1 := own_cell hown7 k (by omega)
          have d2 := own_cell hown7 k1 (by omega)
          obtain ⟨cur, hcur⟩ := own_blk hown7
          have fz1 := free_of hcur k
          have fz2 := free_of hcur k1
          have hg7lt := lt_of hcur
          obtain ⟨a, ha⟩ : ∃ a, F k = a := ⟨_, rfl⟩
          obtain ⟨b, hb⟩ : ∃ b, F k1 = b := ⟨_, rfl⟩
          rw [ha] at d1
          rw [hb] at d2
          have hall : ∀ s, s < i + 1 → F s ≤ 65536 := fun s hs => by
            have : F s ∈ (List.range (i + 1)).map C := hperm.subset (List.mem_map.2 ⟨s, List.mem_range.2 hs, rfl⟩)
            obtain ⟨r, _, hr⟩ := List.mem_map.1 this
            rw [← hr]; exact (HX.out.2.2.2.2 r).2
          have hab : (a : Int) ≤ 65536 := by have := hall k (by omega); omega
          have hbb : (b : Int) ≤ 65536 := by have := hall k1 (by omega); omega
          by_cases hlt : b < a
          · have hlti : (b : Int) < (a : Int) := by omega
            have hsw1 := own_set (G := fun j => if j = k then b else F j) hown7 (k := k) (y := b) (fun j _ => rfl)
            have hsw2 := own_set (G := swapF F k k1) hsw1 (k := k1) (y := a) (fun j _ => by
              simp only [swapF]
              by_cases h1 : j = k
              · rw [if_pos h1, if_neg (by omega), if_pos h1, hb]
              · rw [if_neg h1, if_neg h1]
                by_cases h2 : j = k1
                · rw [if_pos h2, if_pos h2, ha]
                · rw [if_neg h2, if_neg h2])
            have hf2 : Fr [g7] wr ((wr.setCell ⟨g7, k, none⟩ (.int .i64 (b : Int))).setCell ⟨g7, k1, none⟩ (.int .i64 (a : Int))) := (Fr.setCell _ _ _ _).trans (Fr.setCell _ _ _ _)
            have hs6 := ownsRow_to hown6 hf2 (by intro g hg; simp [Value.ownBlock] at hg; subst hg; simpa using hg67)
            have hp2 := (swap_perm (i + 1) k k1 F (by omega) (by omega)).trans hperm
            have hfs : Fall (swapF F k k1) (i + 1) k1 := by rw [← hk1]; exact hfall.step hk0n (by omega) (by rw [hk1, ha, hb]; exact hlt)
            have hbl2 := hf2.out hbel (fun g hg => by simp at hg; rw [hg]; exact (hown7.lt g7 rfl).1)
            have HE := Lib.hid (And.intro hs6 (And.intro hsw2 (And.intro hp2 (And.intro hfs hbl2))))
            clear hown6 hown7 hperm hfall hbel hcur ha hb hall hlt hsw1 hsw2 hf2 hs6 hp2 hfs hbl2 hk0
            go_wp2_with fail
            refine wp_region_quiet_tail 13 (by kernel_rfl) (by kernel_rfl) ?_
            simp only [List.take_succ_cons, List.take_zero, List.drop_succ_cons, List.drop_zero]
            repeat go_big_quiet_step (fail)
            refine wpQuiet_nil ?_
            go_wp2_with fail
            exact ⟨⟨k1, _, rfl, by omega, ownsRow_to HE.out.1 (Fr.drew (Fr.refl [] _)) (by simp), ownsRow_to HE.out.2.1 (Fr.drew (Fr.refl [] _)) (by simp), HE.out.2.2.1, HE.out.2.2.2.1, (Fr.drew (Fr.refl [] _)).out HE.out.2.2.2.2 (by simp)⟩, by simp [intOf]; omega⟩
          · have hlti : (a : Int) ≤ (b : Int) := by omega
            have hltd : decide (b < a) = false := by simp; omega
            have HE := Lib.hid (And.intro hown6 (And.intro hown7 (And.intro hperm (And.intro (hfall.done (.inr (by rw [hk1, ha, hb]; omega))) hbel))))
            clear hown6 hown7 hperm hfall hbel hcur ha hb hall hlt hk0
            go_wp2_with fail
            refine wp_region_quiet_tail 13 (by kernel_rfl) (by kernel_rfl) ?_
            simp only [List.take_succ_cons, List.take_zero, List.drop_succ_cons, List.drop_zero]
            repeat go_big_quiet_step (fail)
            refine wpQuiet_nil ?_
            go_wp2_with fail
            go_roundw
            case rel => exact ⟨i + 1, _, _, _, rfl, rfl, by go_num, by omega, ownsRow_to HE.out.1 (Fr.drew (Fr.refl [] _)) (by simp), ownsRow_to HE.out.2.1 (Fr.drew (Fr.refl [] _)) (by simp), .inr (by simpa [Value.ownBlock] using Ne.symm hg67), HE.out.2.2.1, HE.out.2.2.2.1, (Fr.drew (Fr.refl [] _)).out HE.out.2.2.2.2 (by simp)⟩
            case measure => simp [intOf]; omega
    · have hie : i = n := by omega
      subst hie
      have hid : decide (i < i) = false := by simp
      rcases hown6.2 with ⟨_, h0⟩ | ⟨g6, c6, cur6, hv6, _⟩
      · omega
      rcases hown7.2 with ⟨_, h0⟩ | ⟨g7, c7, cur7, hv7, _⟩
      · omega
      subst hv6
      subst hv7
      have hCb := HX.out.2.2.2.2
      have hpos : posN C i = i := posN_all (fun s => (hCb s).1) i
      have HL := Lib.hid (lens_all g6 i c6 M C wr (sl_own hown6) (by omega) (fun s _ => by have := (hCb s).2; omega) (by omega) (by omega))
      rw [hpos] at HL
      have hFb : ∀ s, s < i → F s ≤ 65536 := fun s hs => by
        have : F s ∈ (List.range i).map C := hperm.subset (List.mem_map.2 ⟨s, List.mem_range.2 hs, rfl⟩)
        obtain ⟨r, _, hr⟩ := List.mem_map.1 this
        rw [← hr]; exact (hCb r).2
      obtain ⟨F2, hF2⟩ : ∃ F2 : Nat → Nat, F2 = fun s => if s < i then F s else 0 := ⟨_, rfl⟩
      have hmapF : (List.range i).map F2 = (List.range i).map F := List.map_congr_left fun s hs => by rw [hF2]; simp only; rw [if_pos (List.mem_range.1 hs)]
      have hF2b : ∀ s, F2 s ≤ 65536 := fun s => by
        rw [hF2]
        simp only
        by_cases hs : s < i
        · rw [if_pos hs]; exact hFb s hs
        · rw [if_neg hs]; omega
      have hF2c : ∀ W, Fr [] wr W → ∀ s, s < i → W.cell? ⟨g7, s, none⟩ = some (.int .i64 (F2 s : Int)) := fun W f s hs => by
        rw [own_cell (ownsRow_to hown7 f (by simp)) s hs, hF2]; simp only; rw [if_pos hs]
      have HBst := Lib.hid (fun W (f : Fr [] wr W) => best_any M (by omega) g7 i c7 F2 (by omega) hF2b W (hF2c W f) M 0 1 2 (by omega) (Nat.zero_le _) (by omega))
      have hb := best_pm (ctL C i) ((List.range i).map F2) M (by omega) (fun z hz => by
        obtain ⟨s, _, rfl⟩ := List.mem_map.1 hz
        have := (hCb s).1; omega) (by rw [ctL_len]; omega) (by
        rw [hmapF]
        refine hperm.trans ?_
        unfold ctL
        rw [List.map_map]
        exact List.Perm.of_eq (List.map_congr_left fun s _ => by simp)) (by
        rw [hmapF, List.pairwise_map]
        refine List.Pairwise.imp_of_mem ?_ List.pairwise_lt_range
        intro a b ha hb hab
        exact hfall a b hab (List.mem_range.1 hb))
      rw [ctL_len] at hb
      rw [List.drop_zero, hb] at HBst
      have hsl := sl_own hown6
      have HS := Lib.hid (And.intro hsl hbel)
      clear hb hmapF hF2 hF2b hF2c hFb hpos hCb hown6 hown7 hperm hfall hbel hsl hne hi hin
      go_wp2_with fail
      refine HL.out.mono ?_
      rintro e w2 ⟨f2, ⟨hlt, rfl⟩ | ⟨hle, gl, rfl, hgl, hNl⟩⟩
      · have hno : ¬ i ≤ 2 ^ M := fun h => by have := (need_iff (by omega)).2 h; omega
        rw [if_neg hno] at HBst
        have HB2 := Lib.hid (show Calls Try.prog 14 #[.slice (some ⟨g7, 0, none⟩) i c7, .int .i64 0, .int .i64 1, .int .i64 2, .int .i64 (M : Int)] w2 fun e w' => e = .returned (.int .i64 (-1)) ∧ w' = w2 from HBst.out w2 f2)
        have F2' := Lib.hid f2
        clear f2 HL HBst hlt hno
        go_wp2_with fail
        refine HB2.out.mono ?_
        rintro e w3 ⟨rfl, hw⟩
        replace hw := hw.symm
        subst hw
        go_wp2_with fail
        refine (HA.out _).mono ?_
        rintro e w4 ⟨rfl, f4⟩
        have F4 := Lib.hid (((Fr.of_below (l := []) HS.out.2).trans F2'.out).trans f4)
        clear f4
        go_wp2_with fail
        go_ret
        exact ⟨rfl, F4.out.below⟩
      · have hyes : i ≤ 2 ^ M := (need_iff (by omega)).1 hle
        rw [if_pos hyes] at HBst
        obtain ⟨X, hX⟩ : ∃ X, weighN (lensL (ctL C i) M) (ctL C i) = X := ⟨_, rfl⟩
        rw [hX] at HBst
        have HB2 := Lib.hid (show Calls Try.prog 14 #[.slice (some ⟨g7, 0, none⟩) i c7, .int .i64 0, .int .i64 1, .int .i64 2, .int .i64 (M : Int)] w2 fun e w' => e = .returned (.int .i64 (X : Int)) ∧ w' = w2 from HBst.out w2 f2)
        have hroom : (sortC (ctL C i)).length ≤ 2 ^ M := by rw [← posN_sort, posN_all (fun s => (HX.out.2.2.2.2 s).1)]; exact hyes
        have hwg := weigh_any (some ⟨gl, 0, none⟩) (some ⟨g6, 0, none⟩) i c6 (lensL (ctL C i) M) (ctL C i) w2 (lens_row_list hNl) (HS.out.1.below f2.below) (by rw [lensL_len]; omega) (by omega) (by rw [ctL_len]; omega) (by rw [lensL_len]; omega) (lensL_mem (by omega) (by omega) hroom) (fun x hx => by have := ctL_mem (B := 65536) (fun s _ => (HX.out.2.2.2.2 s).2) x hx; omega)
        rw [lensL_len, ctL_len, hX] at hwg
        have HW := Lib.hid hwg
        have F2' := Lib.hid f2
        clear f2 HL HBst hle hyes hX hroom hwg hNl hgl
        go_wp2_with fail
        refine HB2.out.mono ?_
        rintro e w3 ⟨rfl, hw⟩
        replace hw := hw.symm
        subst hw
        go_wp2_with fail
        refine HW.out.mono ?_
        rintro e w4 ⟨rfl, f4⟩
        have F4 := Lib.hid f4
        clear f4
        go_wp2_with fail
        refine (HA.out _).mono ?_
        rintro e w5 ⟨rfl, f5⟩
        have F5 := Lib.hid (((Fr.of_below (l := []) HS.out.2).trans (F2'.out.trans F4.out)).trans f5)
        clear f5
        go_wp2_with fail
        go_ret
        exact ⟨rfl, F5.out.below⟩
end Go.Proofs.Ytmajacfcfdljeaa
