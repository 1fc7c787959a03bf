/- platenref06's Needs and symbols. platenref06's symbols: those that count, by rising counts. platenref06's symbols: its walk. platenref06's leaf and both. platenref06's next: the row of the next level. platenref06's next: its walk. platenref06's Lens: where there is none, and of few symbols. What is in the rows of the levels, plain; rows of the reference. platenref06's Lens: few symbols; all. platenref06's Lens: of two symbols or more. PackTells: its walk. -/
import Derived.Test.YtmajacfcfdljeaaPs
import Derived.Deep.RegionHeld3
import Derived.Test.YtmajacfcfdljeaaPd
namespace Go.Proofs.Ytmajacfcfdljeaa
open Go.RowKit
set_option linter.unusedVariables false
set_option linter.unusedSimpArgs false

theorem needN_eq {n k : Nat} (h0 : 1 ≤ n) (hk : 1 ≤ k) (h1 : n ≤ 2 ^ k) (h2 : k = 1 ∨ 2 ^ (k - 1) < n) : needN (n : Int) = k := by
  refine Nat.le_antisymm ((need_iff hk).2 h1) ?_
  rcases h2 with rfl | h2
  · unfold needN
    rw [if_neg (by omega)]
    by_cases h3 : (n : Int) < 3
    · rw [if_pos h3]; exact Nat.le_refl _
    · rw [if_neg h3]
      rcases Nat.eq_zero_or_pos (bl ((n : Int) - 1).toNat) with h | h
      · have := (bl_le ((n : Int) - 1).toNat 0).1 (by omega); omega
      · exact h
  · rcases Nat.lt_or_ge (needN (n : Int)) k with h | h
    · exfalso
      have := need_room (n := n) (k := k - 1) (by omega)
      omega
    · exact h
set_option maxRecDepth 100000 in
set_option maxHeartbeats 1600000 in
theorem refNeeds_any (n : Int) (w : World) (h0 : -9223372036854775808 ≤ n) (h1 : n ≤ 1099511627776) :
    Calls Try.prog 13 #[.int .i64 n] w fun e w' => e = .returned (.int .i64 (needN n : Nat)) ∧ w' = w := by
  by_cases ha : n < 1
  · have HE := Lib.hid (show needN n = 0 by unfold needN; rw [if_pos ha])
    go_enter Try.func13, Try.ntmps13
    go_wp2_with fail
    go_ret
    rw [HE.out]
    exact ⟨rfl, rfl⟩
  · obtain ⟨m, rfl⟩ : ∃ m : Nat, n = (m : Int) := ⟨n.toNat, by omega⟩
    have hm1 : 1 ≤ (m : Int) := by omega
    clear ha h0
    go_enter Try.func13, Try.ntmps13
    go_wp2_with fail
    go_loop [3, 4] (fun v3 v4 => ∃ k r : Nat, v3 = .int .i64 (k : Int) ∧ v4 = .int .i64 (r : Int) ∧ r = 2 ^ k ∧ 1 ≤ k ∧ (k = 1 ∨ 2 ^ (k - 1) < m)) (fun _ v4 => m - (intOf v4).toNat)
    case atStart => exact ⟨1, 2, rfl, rfl, rfl, Nat.le_refl _, .inl rfl⟩
    case round =>
      obtain ⟨k, r, rfl, rfl, hr, hk1, hk2⟩ := hrel
      have hkb : k ≤ 41 := by
        rcases hk2 with h | h
        · omega
        · rcases Nat.lt_or_ge 41 k with h41 | h41
          · have : 2 ^ 41 ≤ 2 ^ (k - 1) := Nat.pow_le_pow_right (by decide) (by omega)
            omega
          · exact h41
      have hrb : r ≤ 2 ^ 41 := by rw [hr]; exact Nat.pow_le_pow_right (by decide) hkb
      have hrb2 : (r : Int) ≤ 2199023255552 := by omega
      have hkb2 : (k : Int) ≤ 41 := by omega
      have hr0 : 0 < r := by rw [hr]; exact Nat.two_pow_pos _
      obtain ⟨r2, hr2⟩ : ∃ r2, 2 * r = r2 := ⟨_, rfl⟩
      have er2 : (2 : Int) * (r : Int) = (r2 : Int) := by omega
      have hlt2 : r < r2 := by omega
      have HK := Lib.hid (And.intro hr (And.intro hk1 (And.intro hk2 hr2)))
      by_cases hrm : r < m
      · have hrmi : (r : Int) < (m : Int) := by omega
        have hr2b : (r2 : Int) ≤ 4398046511104 := by omega
        clear hr hk1 hk2 hrb hr2 hkb
        go_wp2
        refine ⟨⟨k + 1, r2, by go_num, rfl, ?_, by omega, .inr ?_⟩, by simp [intOf]; omega⟩
        · rw [← HK.out.2.2.2, HK.out.1, Nat.pow_succ]; omega
        · rw [Nat.add_sub_cancel, ← HK.out.1]; exact hrm
      · have hrd : decide (r < m) = false := by simp; omega
        have HE := Lib.hid (show needN (m : Int) = k from needN_eq (by omega) hk1 (by omega) hk2)
        clear hr hk1 hk2 hrb hr2 hkb hrm
        go_wp2
        go_ret
        rw [HE.out]
        exact ⟨rfl, rfl⟩

/-- In rising order, but for what stands at k. -/
def Rise (W F : Nat → Nat) (n k : Nat) : Prop := ∀ a b, a < b → b < n → b ≠ k → ltS W (F a) (F b)
theorem ltS_trans {W : Nat → Nat} {x y z : Nat} (h : ltS W x y) (k : ltS W y z) : ltS W x z := by unfold ltS at *; omega
theorem Rise.step {W F : Nat → Nat} {n k : Nat} (h : Rise W F n k) (hk : 0 < k) (hn : k < n) (hx : W (F k) < W (F (k - 1))) : Rise W (swapF F k (k - 1)) n (k - 1) := by
  intro a b hab hb hne
  simp only [swapF]
  by_cases h1 : b = k
  · subst h1
    rw [if_pos rfl]
    by_cases h2 : a = b - 1
    · subst h2; rw [if_neg (by omega), if_pos rfl]; exact .inl hx
    · rw [if_neg (by omega), if_neg h2]
      exact h a (b - 1) (by omega) (by omega) (by omega)
  · rw [if_neg h1, if_neg hne]
    by_cases h2 : a = k
    · subst h2; rw [if_pos rfl]; exact h (a - 1) b (by omega) hb (by omega)
    · rw [if_neg h2]
      by_cases h3 : a = k - 1
      · subst h3; rw [if_pos rfl]
        have := h (k - 1) b (by omega) hb h1
        unfold ltS at this ⊢
        left; omega
      · rw [if_neg h3]; exact h a b hab hb (by omega)
theorem Rise.done {W F : Nat → Nat} {n k : Nat} (h : Rise W F n k) (hk : k = 0 ∨ ltS W (F (k - 1)) (F k)) : ∀ a b, a < b → b < n → ltS W (F a) (F b) := by
  intro a b hab hb
  by_cases hbk : b = k
  · subst hbk
    rcases hk with hk | hk
    · omega
    · by_cases ha : a = b - 1
      · rw [ha]; exact hk
      · exact ltS_trans (h a (b - 1) (by omega) (by omega) (by omega)) hk
  · exact h a b hab hb hbk
end Go.Proofs.Ytmajacfcfdljeaa
namespace Go.Proofs.Ytmajacfcfdljeaa
open Go.RowKit
set_option linter.unusedVariables false
set_option linter.unusedSimpArgs false

theorem cntL_take (l : List Int) (j : Nat) (c : Int) (h : l[j]? = some c) : cntL 0 (l.take (j + 1)) = cntL 0 (l.take j) ++ if 0 < c then [(c.toNat, j)] else [] := by
  have hj := (List.getElem?_eq_some_iff.1 h).1
  rw [List.take_add_one, h, Option.toList_some, cntL_append, Nat.zero_add, List.length_take, Nat.min_eq_left (by omega)]
  congr 1
theorem cntL_len_le : ∀ (xs : List Int) (s : Nat), (cntL s xs).length ≤ xs.length
  | [], s => by simp [cntL]
  | c :: xs, s => by
    have := cntL_len_le xs (s + 1)
    rw [cntL]; split <;> simp <;> omega
/-- The symbols that count, as they stand. -/
def sy0 (l : List Int) (k : Nat) : Nat := ((cntL 0 l).getD k (0, 0)).2
def wt0 (l : List Int) (s : Nat) : Nat := (l.getD s 0).toNat
theorem sy0_list (l : List Int) : ivs (cntL 0 l).length (sy0 l) = (cntL 0 l).map fun p => Value.int .i64 (p.2 : Int) := by
  apply List.ext_getElem?
  intro i
  unfold ivs sy0
  by_cases hi : i < (cntL 0 l).length
  · simp [hi]
  · rw [List.getElem?_eq_none (by simp; omega), List.getElem?_eq_none (by simp; omega)]
theorem sy0_up (l : List Int) {a b : Nat} (h : a < b) (hb : b < (cntL 0 l).length) : sy0 l a < sy0 l b := by
  have := List.pairwise_iff_getElem.1 (cntL_up l 0) a b (by omega) hb h
  unfold sy0
  rw [List.getD_eq_getElem?_getD, List.getD_eq_getElem?_getD, List.getElem?_eq_getElem (by omega), List.getElem?_eq_getElem hb]
  exact this
theorem sy0_is (l : List Int) {k : Nat} (h : k < (cntL 0 l).length) : ∃ c, l[sy0 l k]? = some c ∧ 0 < c ∧ (cntL 0 l)[k]? = some (wt0 l (sy0 l k), sy0 l k) := by
  have hm : (cntL 0 l)[k] ∈ cntL 0 l := List.getElem_mem h
  obtain ⟨i, c, h1, h2, h3⟩ := (cntL_mem l 0 _).1 hm
  have e : sy0 l k = i := by
    unfold sy0
    rw [List.getD_eq_getElem?_getD, List.getElem?_eq_getElem h, Option.getD_some, h3, Nat.zero_add]
  refine ⟨c, by rw [e]; exact h1, h2, ?_⟩
  rw [List.getElem?_eq_getElem h, h3, e]
  unfold wt0
  rw [List.getD_eq_getElem?_getD, h1, Option.getD_some, Nat.zero_add]
/-- Sorted symbols are the sorted row's. -/
theorem sy_sorted (l : List Int) (F : Nat → Nat) (n : Nat) (hn : n = (cntL 0 l).length) (hp : ((List.range n).map F).Perm ((List.range n).map (sy0 l))) (hs : ∀ a b, a < b → b < n → ltS (wt0 l) (F a) (F b)) : (List.range n).map (fun k => (wt0 l (F k), F k)) = sortC l := by
  refine sortC_of ?_ ?_
  · have h1 := hp.map fun s => (wt0 l s, s)
    rw [List.map_map, List.map_map] at h1
    refine h1.trans (List.Perm.of_eq ?_)
    subst hn
    apply List.ext_getElem?
    intro i
    by_cases hi : i < (cntL 0 l).length
    · obtain ⟨c, _, _, h3⟩ := sy0_is l hi
      rw [h3, List.getElem?_map, List.getElem?_range hi]; rfl
    · rw [List.getElem?_eq_none (by simp; omega), List.getElem?_eq_none (by omega)]
  · rw [List.pairwise_map]
    refine List.Pairwise.imp_of_mem ?_ List.pairwise_lt_range
    intro i j _ hj hij
    have := hs i j hij (List.mem_range.1 hj)
    unfold ltS at this
    unfold lexB
    simp only [decide_eq_true_eq]
    omega
/-- What holds at the head of a round of the sorting loops. -/
def SymO (w : World) (l : List Int) (n g cap i : Nat) (F : Nat → Nat) (wr : World) : Prop :=
  wr.ownsRow w.heap.size 3 1 (.slice (some ⟨g, 0, none⟩) n cap) n (ivs n F) ∧ ((List.range n).map F).Perm ((List.range n).map (sy0 l)) ∧ (∀ s, i ≤ s → s < n → F s = sy0 l s) ∧ Below w.heap.size w wr
def SymR (w : World) (l : List Int) (n g cap : Nat) (v5 : Value) (wr : World) : Prop :=
  ∃ (i : Nat) (F : Nat → Nat), v5 = .int .i64 (i : Int) ∧ i ≤ n ∧ SymO w l n g cap i F wr ∧ (∀ a b, a < b → b < i → ltS (wt0 l) (F a) (F b)) ∧ ∀ a, a < i → ∃ b, b < i ∧ F a = sy0 l b
def SymI (w : World) (l : List Int) (n g cap i : Nat) (v6 : Value) (wr : World) : Prop :=
  ∃ (k : Nat) (F : Nat → Nat), v6 = .int .i64 (k : Int) ∧ k ≤ i ∧ SymO w l n g cap (i + 1) F wr ∧ Rise (wt0 l) F (i + 1) k ∧ F k = sy0 l i ∧ (∀ a, a < i + 1 → a ≠ k → F a < sy0 l i) ∧ ∀ a, a < i + 1 → ∃ b, b < i + 1 ∧ F a = sy0 l b
end Go.Proofs.Ytmajacfcfdljeaa
namespace Go.Proofs.Ytmajacfcfdljeaa
open Go.RowKit
set_option linter.unusedVariables false
set_option linter.unusedSimpArgs false

/-- What holds at the head of a round of the loop that collects. -/
def ColR (w : World) (l : List Int) (v3 v4 : Value) (wr : World) : Prop :=
  ∃ (j : Nat) (u3 : Value), u3 = v3 ∧ v4 = .int .i64 (j : Int) ∧ j ≤ l.length ∧ wr.ownsRow w.heap.size 3 1 v3 (cntL 0 (l.take j)).length ((cntL 0 (l.take j)).map fun p => Value.int .i64 (p.2 : Int)) ∧ Below w.heap.size w wr
set_option maxRecDepth 2000000 in
set_option maxHeartbeats 6400000 in
theorem symbols_any (a : Option Addr) (c : Nat) (l : List Int) (w : World) (hs : SlOf (Zn .i64) 1 w a l) (hl : l.length ≤ 320) (hb : ∀ x ∈ l, 0 ≤ x ∧ x ≤ 1073741824) :
    Calls Try.prog 20 #[.slice a l.length c] w fun e w' => ∃ v F, e = .returned v ∧ w'.ownsRow w.heap.size 3 1 v (sortC l).length (ivs (sortC l).length F) ∧ (List.range (sortC l).length).map (fun k => (wt0 l (F k), F k)) = sortC l ∧ Below w.heap.size w w' := by
  have hl1 : (l.length : Int) ≤ 320 := by omega
  have HX := Lib.hid (And.intro hs (And.intro hl hb))
  clear hs hl hb
  go_enter Try.func20, Try.ntmps20
  go_wp2_with fail
  go_loopw [3, 4] (fun v3 v4 wr => ColR w l v3 v4 wr) (fun _ v4 _ => l.length - (intOf v4).toNat)
  case atStart => exact ⟨0, _, rfl, rfl, Nat.zero_le _, by simpa [cntL] using World.ownsRow_nil _ _ _ _, Below.refl _ _⟩
  case round =>
    obtain ⟨j, u3, rfl, rfl, hj, hown, hbel⟩ := hrel
    by_cases hjl : j < l.length
    · have hji : (j : Int) < (l.length : Int) := by omega
      obtain ⟨x, hx⟩ : ∃ x, l[j]? = some x := ⟨l[j], List.getElem?_eq_getElem hjl⟩
      obtain ⟨g1, o1, rfl, hb1, hc1⟩ := HX.out.1 (by intro h; rw [h] at hx; simp at hx)
      have c00 := hc1 j x hx 0 (.int .i64 x) rfl
      rw [Nat.mul_one, Nat.add_zero] at c00
      have c1 : wr.cell? ⟨g1, o1 + j, none⟩ = some (.int .i64 x) := by rw [hbel.cell (p := ⟨g1, o1 + j, none⟩) hb1]; exact c00
      obtain ⟨hx0, hx1⟩ := HX.out.2.2 x (List.mem_of_getElem? hx)
      have hct := cntL_take l j x hx
      have hcl := cntL_len_le (l.take j) 0
      rw [List.length_take] at hcl
      obtain ⟨m, hm⟩ : ∃ m, (cntL 0 (l.take j)).length = m := ⟨_, rfl⟩
      rw [hm] at hown hcl
      have hm320 : m ≤ 320 := by omega
      have hsz := hbel.size
      have HO := Lib.hid hown
      have HB := Lib.hid hbel
      by_cases hpos : 0 < x
      · rw [if_pos hpos] at hct
        have HC := Lib.hid (And.intro hct hm)
        clear hct hm hcl hown hbel hx hc1 c00 hx0
        go_wp2_with (first | (at_builtin; go_must (refine wpList_push w.heap.size w wr rfl (.tmp 19) (.tmp 21) 22 rfl 3 1 8 elemI u3 m _ rfl HO HB hsz #[.int .i64 (j : Int)] 1 1 rfl rfl rfl (by omega) (by omega) (by omega) ?_); intro g5 c5 w5 HQ))
        go_roundw
        case rel =>
          refine ⟨j + 1, _, rfl, by go_num, by omega, ?_, HQ.out.below⟩
          have := HQ.out.own
          rw [HC.out.1, List.length_append, List.map_append, HC.out.2]
          exact this
        case measure => simp [intOf]; omega
      · rw [if_neg hpos, List.append_nil] at hct
        have HC := Lib.hid (And.intro hct hm)
        have hpos' : x ≤ 0 := by omega
        clear hct hm hcl hown hbel hx hc1 c00 hx0 hpos
        go_wp2_with fail
        go_roundw
        case rel => exact ⟨j + 1, _, rfl, by go_num, by omega, by rw [HC.out.1, HC.out.2]; exact HO.out, HB.out⟩
        case measure => simp [intOf]; omega
    · have hje : j = l.length := by omega
      rw [hje, List.take_length] at hown
      obtain ⟨n, hn⟩ : ∃ n, (cntL 0 l).length = n := ⟨_, rfl⟩
      have hnS : (sortC l).length = n := by rw [(sortC_perm l).length_eq, hn]
      have hn320 : n ≤ 320 := by have := cntL_len_le l 0; have := HX.out.2.1; omega
      have hown2 : wr.ownsRow w.heap.size 3 1 u3 n (ivs n (sy0 l)) := by
        have := sy0_list l
        rw [hn] at this
        rw [this, ← hn]; exact hown
      have hjd : decide (j < l.length) = false := by simp; omega
      rcases hown2.2 with ⟨hv, h0⟩ | ⟨g, cap, cur, hv, _⟩
      · subst hv
        subst h0
        have HE := Lib.hid (And.intro hown2 (And.intro hnS (And.intro hbel hn)))
        clear hown hown2 hnS hbel hn
        go_wp2_with fail
        go_loopw [5, 6, 7] (fun v5 _ _ wx => v5 = .int .i64 0 ∧ wx = wr) (fun _ _ _ _ => 0)
        case atStart => exact ⟨rfl, rfl⟩
        case round =>
          obtain ⟨rfl, hw⟩ := hrel
          replace hw := hw.symm
          subst hw
          go_wp2_with fail
          go_ret
          obtain ⟨e1, e2, e3, e4⟩ := HE.out
          rw [e2]
          refine ⟨_, sy0 l, rfl, e1, ?_, e3⟩
          rw [List.eq_nil_of_length_eq_zero e2]; rfl
      · subst hv
        have hni : (n : Int) ≤ 320 := by omega
        have HE := Lib.hid (And.intro hown2 (And.intro hnS (And.intro hbel hn)))
        clear hown hown2 hnS hbel hn
        go_wp2_with fail
        go_loopw [5, 6, 7] (fun v5 _ _ wx => SymR w l n g cap v5 wx) (fun v5 _ _ _ => n - (intOf v5).toNat)
        case atStart => exact ⟨0, sy0 l, rfl, Nat.zero_le _, ⟨HE.out.1, List.Perm.refl _, fun s _ _ => rfl, HE.out.2.2.1⟩, fun a b _ hb => by omega, fun a ha => by omega⟩
        case round =>
          obtain ⟨i, F, rfl, hi, ⟨hown, hperm, hrest, hbel⟩, hsort, hof⟩ := hrel
          by_cases hin : i < n
          · have hii : (i : Int) < (n : Int) := by omega
            have hlen : n = (cntL 0 l).length := HE.out.2.2.2.symm
            have HI := Lib.hid (show SymI w l n g cap i (.int .i64 (i : Int)) _ from ⟨i, F, rfl, Nat.le_refl _, ⟨hown, hperm, fun s h1 h2 => hrest s (by omega) h2, hbel⟩, fun a b hab hb hne => hsort a b hab (by omega), hrest i (Nat.le_refl _) hin, fun a ha hne => by
              obtain ⟨b, hb, e⟩ := hof a (by omega)
              rw [e]; exact sy0_up l hb (by omega), fun a ha => by
              by_cases hai : a = i
              · subst hai; exact ⟨a, by omega, hrest a (Nat.le_refl _) hin⟩
              · obtain ⟨b, hb, e⟩ := hof a (by omega)
                exact ⟨b, by omega, e⟩⟩)
            clear hown hperm hrest hbel hsort hof
            go_wp2_with fail
            go_loopw [6, 7] (fun v6 _ wx => SymI w l n g cap i v6 wx) (fun v6 _ _ => (intOf v6).toNat)
            case atStart => exact HI.out
            case round =>
              clear HI
              obtain ⟨k, F, rfl, hki, ⟨hown, hperm, hrest, hbel⟩, hrise, hFk, hlt, hof⟩ := hrel
              have hkii : (k : Int) ≤ (i : Int) := by omega
              by_cases hk0 : k = 0
              · have hk0i : (k : Int) ≤ 0 := by omega
                have hk0d : decide (0 < (k : Int)) = false := by simp; omega
                have hk0n : decide (0 < k) = false := by simp; omega
                have HF := Lib.hid (And.intro hown (And.intro hperm (And.intro hrest (And.intro hbel (And.intro (hrise.done (.inl hk0)) hof)))))
                clear hown hperm hrest hbel hrise hFk hlt hof hk0
                go_wp2_with fail
                refine wp_region_quiet_tail 19 (by kernel_rfl) (by kernel_rfl) ?_
                simp only [List.take_succ_cons, List.take_zero, List.drop_succ_cons, List.drop_zero]
                repeat go_big_quiet_step (fail)
                refine wpQuiet_nil ?_
                go_wp2_with fail
                go_roundw
                case rel =>
                  obtain ⟨h1, h2, h3, h4, h5, h6⟩ := HF.out
                  exact ⟨i + 1, F, by go_num, by omega, ⟨ownsRow_to h1 (Fr.drew (Fr.refl [] _)) (by simp), h2, h3, (Fr.drew (Fr.refl [] _)).out h4 (by simp)⟩, h5, h6⟩
                case measure => simp [intOf]; omega
              · obtain ⟨k1, hk1⟩ : ∃ k1, k - 1 = k1 := ⟨_, rfl⟩
                have ek1 : (k : Int) - 1 = (k1 : Int) := by omega
                have hk0i : 0 < (k : Int) := by omega
                have hk0n : 0 < k := by omega
                have hk1i : (k1 : Int) < (n : Int) := by omega
                have hki1 : (k : Int) < (n : Int) := by omega
                have d1 := own_cell hown k (by omega)
                have d2 := own_cell hown k1 (by omega)
                obtain ⟨cur', hcur⟩ := own_blk hown
                have fz1 := free_of hcur k
                have fz2 := free_of hcur k1
                have hglt := lt_of hcur
                have hlen : n = (cntL 0 l).length := HE.out.2.2.2.symm
                obtain ⟨b1, hb1, e1⟩ := hof k (by omega)
                obtain ⟨b2, hb2, e2⟩ := hof k1 (by omega)
                obtain ⟨ca, ca1, ca2, _⟩ := sy0_is l (k := b1) (by omega)
                obtain ⟨cb, cb1, cb2, _⟩ := sy0_is l (k := b2) (by omega)
                rw [← e1] at ca1
                rw [← e2] at cb1
                have hltk := hlt k1 (by omega) (by omega)
                obtain ⟨u, hu⟩ : ∃ u, F k = u := ⟨_, rfl⟩
                obtain ⟨v, hv⟩ : ∃ v, F k1 = v := ⟨_, rfl⟩
                rw [hu] at d1 ca1
                rw [hv] at d2 cb1 hltk
                have hul := (List.getElem?_eq_some_iff.1 ca1).1
                have hvl := (List.getElem?_eq_some_iff.1 cb1).1
                have huli : (u : Int) < (l.length : Int) := by omega
                have hvli : (v : Int) < (l.length : Int) := by omega
                obtain ⟨g1, o1, rfl, hgb, hc1⟩ := HX.out.1 (by intro h; rw [h] at ca1; simp at ca1)
                have q1 := hc1 u ca ca1 0 (.int .i64 ca) rfl
                have q2 := hc1 v cb cb1 0 (.int .i64 cb) rfl
                rw [Nat.mul_one, Nat.add_zero] at q1 q2
                have r1 : wr.cell? ⟨g1, o1 + u, none⟩ = some (.int .i64 ca) := by rw [hbel.cell (p := ⟨g1, o1 + u, none⟩) hgb]; exact q1
                have r2 : wr.cell? ⟨g1, o1 + v, none⟩ = some (.int .i64 cb) := by rw [hbel.cell (p := ⟨g1, o1 + v, none⟩) hgb]; exact q2
                have hcab := HX.out.2.2 ca (List.mem_of_getElem? ca1)
                have hcbb := HX.out.2.2 cb (List.mem_of_getElem? cb1)
                obtain ⟨hcab1, hcab2⟩ := hcab
                obtain ⟨hcbb1, hcbb2⟩ := hcbb
                have wu : wt0 l u = ca.toNat := by unfold wt0; rw [List.getD_eq_getElem?_getD, ca1, Option.getD_some]
                have wv : wt0 l v = cb.toNat := by unfold wt0; rw [List.getD_eq_getElem?_getD, cb1, Option.getD_some]
                have hg1b : g1 < w.heap.size := hgb
                have hgg := (hown.lt g rfl).1
                have hgne : g ≠ g1 := by omega
                by_cases hlt2 : ca < cb
                · have hsw1 := own_set (G := fun j => if j = k then v else F j) hown (k := k) (y := v) (fun j _ => rfl)
                  have hsw2 := own_set (G := swapF F k k1) hsw1 (k := k1) (y := u) (fun j _ => by
                    simp only [swapF]
                    by_cases h1 : j = k
                    · rw [if_pos h1, if_neg (by omega), if_pos h1, hv]
                    · rw [if_neg h1, if_neg h1]
                      by_cases h2 : j = k1
                      · rw [if_pos h2, if_pos h2, hu]
                      · rw [if_neg h2, if_neg h2])
                  have hf2 : Fr [g] wr ((wr.setCell ⟨g, k, none⟩ (.int .i64 (v : Int))).setCell ⟨g, k1, none⟩ (.int .i64 (u : Int))) := (Fr.setCell _ _ _ _).trans (Fr.setCell _ _ _ _)
                  have hp2 := (swap_perm n k k1 F (by omega) (by omega)).trans hperm
                  have hrs : Rise (wt0 l) (swapF F k k1) (i + 1) k1 := by rw [← hk1]; exact hrise.step hk0n (by omega) (by rw [hk1, hu, hv, wu, wv]; omega)
                  have hbl2 := hf2.out hbel (fun g' hg => by simp at hg; rw [hg]; exact hgg)
                  have hre : ∀ s, i + 1 ≤ s → s < n → swapF F k k1 s = sy0 l s := fun s h1 h2 => by
                    simp only [swapF]; rw [if_neg (by omega), if_neg (by omega)]; exact hrest s h1 h2
                  have hx2 : swapF F k k1 k1 = sy0 l i := by unfold swapF; rw [if_neg (by omega), if_pos rfl]; exact hFk
                  have hlt3 : ∀ a, a < i + 1 → a ≠ k1 → swapF F k k1 a < sy0 l i := fun a h1 h2 => by
                    simp only [swapF]
                    by_cases h3 : a = k
                    · rw [if_pos h3]; exact hlt k1 (by omega) (by omega)
                    · rw [if_neg h3, if_neg h2]; exact hlt a h1 h3
                  have hof3 : ∀ a, a < i + 1 → ∃ b, b < i + 1 ∧ swapF F k k1 a = sy0 l b := fun a h1 => by
                    simp only [swapF]
                    by_cases h3 : a = k
                    · rw [if_pos h3]; exact hof k1 (by omega)
                    · rw [if_neg h3]
                      by_cases h4 : a = k1
                      · rw [if_pos h4]; exact hof k (by omega)
                      · rw [if_neg h4]; exact hof a h1
                  have HF := Lib.hid (And.intro hsw2 (And.intro hp2 (And.intro hre (And.intro hbl2 (And.intro hrs (And.intro hx2 (And.intro hlt3 hof3)))))))
                  clear hown hperm hrest hbel hrise hFk hlt hof hcur hu hv hsw1 hsw2 hf2 hp2 hrs hbl2 hre hx2 hlt3 hof3 hk0 hc1 q1 q2 wu wv ca1 cb1 e1 e2 hb1 hb2
                  go_wp2_with fail
                  refine wp_region_quiet_tail 19 (by kernel_rfl) (by kernel_rfl) ?_
                  simp only [List.take_succ_cons, List.take_zero, List.drop_succ_cons, List.drop_zero]
                  repeat go_big_quiet_step (fail)
                  refine wpQuiet_nil ?_
                  go_wp2_with fail
                  obtain ⟨h1, h2, h3, h4, h5, h6, h7, h8⟩ := HF.out
                  exact ⟨⟨k1, _, rfl, by omega, ⟨ownsRow_to h1 (Fr.drew (Fr.refl [] _)) (by simp), h2, h3, (Fr.drew (Fr.refl [] _)).out h4 (by simp)⟩, h5, h6, h7, h8⟩, by simp [intOf]; omega⟩
                · have hltd : decide (ca < cb) = false := by simp; omega
                  have hle : cb ≤ ca := by omega
                  have hfin := hrise.done (.inr (by
                    rw [hk1, hu, hv]
                    unfold ltS
                    rw [wu, wv]
                    rw [← hFk, hu] at hltk
                    omega))
                  have HF := Lib.hid (And.intro hown (And.intro hperm (And.intro hrest (And.intro hbel (And.intro hfin hof)))))
                  clear hown hperm hrest hbel hrise hFk hlt hof hcur hu hv hfin hk0 hc1 q1 q2 wu wv ca1 cb1 e1 e2 hb1 hb2 hlt2
                  go_wp2_with fail
                  refine wp_region_quiet_tail 19 (by kernel_rfl) (by kernel_rfl) ?_
                  simp only [List.take_succ_cons, List.take_zero, List.drop_succ_cons, List.drop_zero]
                  repeat go_big_quiet_step (fail)
                  refine wpQuiet_nil ?_
                  go_wp2_with fail
                  go_roundw
                  case rel =>
                    obtain ⟨h1, h2, h3, h4, h5, h6⟩ := HF.out
                    exact ⟨i + 1, F, by go_num, by omega, ⟨ownsRow_to h1 (Fr.drew (Fr.refl [] _)) (by simp), h2, h3, (Fr.drew (Fr.refl [] _)).out h4 (by simp)⟩, h5, h6⟩
                  case measure => simp [intOf]; omega
          · have hie : i = n := by omega
            have hid : decide (i < n) = false := by simp; omega
            have HF := Lib.hid (And.intro hown (And.intro hperm (And.intro hbel hsort)))
            clear hown hperm hrest hbel hsort hof
            go_wp2_with fail
            go_ret
            obtain ⟨h1, h2, h3, h4⟩ := HF.out
            obtain ⟨e1, e2, e3, e4⟩ := HE.out
            rw [e2]
            exact ⟨_, F, rfl, h1, sy_sorted l F n e4.symm h2 (by rw [← hie]; exact h4), h3⟩
end Go.Proofs.Ytmajacfcfdljeaa
namespace Go.Proofs.Ytmajacfcfdljeaa
open Go.RowKit
set_option linter.unusedVariables false
set_option linter.unusedSimpArgs false

/-- A reference's thing, as a value. -/
def rv (wg g n : Nat) : Value := .agg #[.int .i64 (wg : Int), .slice (some ⟨g, 0, none⟩) n n]
set_option maxRecDepth 2000000 in
set_option maxHeartbeats 3200000 in
theorem leaf_any (wg k n : Nat) (w : World) (hw : wg ≤ 1073741824) (hk : k < n) (hn : n ≤ 320) :
    Calls Try.prog 21 #[.int .i64 (wg : Int), .int .i64 (k : Int), .int .i64 (n : Int)] w fun e w' => ∃ g, e = .returned (rv wg g n) ∧ w.heap.size ≤ g ∧ Nrow w' g 5 .u8 n (fun i => if i = k then 1 else 0) ∧ Fr [] w w' := by
  have h1 : (wg : Int) ≤ 1073741824 := by omega
  have h2 : (k : Int) < (n : Int) := by omega
  have h3 : (n : Int) ≤ 320 := by omega
  have hmk := fun W => run_make_bytes W n (by omega)
  have sz1 : (w.alloc (.cells #[.int .i64 0, .slice none 0 0] 56)).heap.size = w.heap.size + 1 := Array.size_push _
  have hA := Fr.alloc [] ((w.alloc (.cells #[.int .i64 0, .slice none 0 0] 56)).alloc (.cells (Lib.byteCells (List.replicate n 0)).toArray 5)) (.cells #[.int .i64 (wg : Int), .slice (some ⟨w.heap.size + 1, 0, none⟩) n n] 56)
  have hM := made_row (w.alloc (.cells #[.int .i64 0, .slice none 0 0] 56)) n
  rw [sz1] at hM
  have hN := hM.to hA (by simp)
  have d0 := hN.cell k hk
  have fz := free_of hN k
  have hO := made_one (w.alloc (.cells #[.int .i64 (wg : Int), .slice (some ⟨w.heap.size + 1, 0, none⟩) n n] 56)) n k
  rw [show (w.alloc (.cells #[.int .i64 (wg : Int), .slice (some ⟨w.heap.size + 1, 0, none⟩) n n] 56)).heap.size = w.heap.size + 1 from Array.size_push _] at hO
  have hO2 := hO.to (Fr.alloc [] _ (.cells #[.int .i64 (wg : Int), .slice (some ⟨w.heap.size + 1, 0, none⟩) n n] 56)) (by simp)
  have HO := Lib.hid hO2
  clear hw hn hA hM hN hO hO2 sz1
  go_enter Try.func21, Try.ntmps21
  go_wp2_with fail
  refine bodyPost_ret (v := rv wg (w.heap.size + 1) n) (by simp [results, Try.results21, go_sem, rv]) rfl ⟨w.heap.size + 1, rfl, by omega, HO.out, ((Fr.alloc [] _ _).trans (Fr.alloc [] _ _)).trans (Fr.alloc [] _ _)⟩
/-- The sum of two rows of numbers of a byte each. -/
def addV (A B : Nat → Nat) (i : Nat) : Nat := (A i + B i) % 256
/-- Behind the first statement: the new thing, its row of noughts. -/
def BothM (W3 : World) (wz n : Nat) (v5 : Value) (wx : World) : Prop :=
  ∃ gv gt, v5 = .pointer (some ⟨gt, 0, none⟩) ∧ wx.heap[gt]? = some (.cells #[.int .i64 (wz : Int), .slice (some ⟨gv, 0, none⟩) n n] 56 (0, 0)) ∧ Nrow wx gv 5 .u8 n (fun _ => 0) ∧ W3.heap.size ≤ gv ∧ W3.heap.size ≤ gt ∧ gt ≠ gv ∧ Fr [] W3 wx
theorem bothM_a (W3 : World) (wz n : Nat) : BothM W3 wz n (.pointer (some ⟨W3.heap.size + 1, 0, none⟩)) ((W3.alloc (.cells (Lib.byteCells (List.replicate n 0)).toArray 5)).alloc (.cells #[.int .i64 (wz : Int), .slice (some ⟨W3.heap.size, 0, none⟩) n n] 56)).drew := by
  have h1 := (made_row W3 n).to (Fr.alloc [] _ (.cells #[.int .i64 (wz : Int), .slice (some ⟨W3.heap.size, 0, none⟩) n n] 56)) (by simp)
  have h2 := new_of (W3.alloc (.cells (Lib.byteCells (List.replicate n 0)).toArray 5)) (.cells #[.int .i64 (wz : Int), .slice (some ⟨W3.heap.size, 0, none⟩) n n] 56)
  rw [show (W3.alloc (.cells (Lib.byteCells (List.replicate n 0)).toArray 5)).heap.size = W3.heap.size + 1 from Array.size_push _] at h2
  exact ⟨W3.heap.size, W3.heap.size + 1, rfl, h2, h1.to (l := []) (Fr.drew (Fr.refl [] _)) (by simp), by omega, by omega, by omega, ((Fr.alloc [] _ _).trans (Fr.alloc [] _ _)).drew⟩
theorem bothM_b (W3 : World) (wz n : Nat) : BothM W3 wz n (.pointer (some ⟨W3.heap.size, 0, none⟩)) ((W3.alloc (.cells #[.int .i64 (wz : Int), .slice (some ⟨W3.heap.size + 1, 0, none⟩) n n] 56)).alloc (.cells (Lib.byteCells (List.replicate n 0)).toArray 5)).drew := by
  have h1 := made_row (W3.alloc (.cells #[.int .i64 (wz : Int), .slice (some ⟨W3.heap.size + 1, 0, none⟩) n n] 56)) n
  rw [show (W3.alloc (.cells #[.int .i64 (wz : Int), .slice (some ⟨W3.heap.size + 1, 0, none⟩) n n] 56)).heap.size = W3.heap.size + 1 from Array.size_push _] at h1
  have h2 := (Fr.alloc [] _ (.cells (Lib.byteCells (List.replicate n 0)).toArray 5)).drew.blk (new_of W3 (.cells #[.int .i64 (wz : Int), .slice (some ⟨W3.heap.size + 1, 0, none⟩) n n] 56)) (by simp)
  exact ⟨W3.heap.size + 1, W3.heap.size, rfl, h2, h1.to (l := []) (Fr.drew (Fr.refl [] _)) (by simp), by omega, by omega, by omega, ((Fr.alloc [] _ _).trans (Fr.alloc [] _ _)).drew⟩
set_option maxRecDepth 2000000 in
set_option maxHeartbeats 3200000 in
theorem both_any (wa ga wb gb n : Nat) (A B : Nat → Nat) (w : World) (hw : wa + wb ≤ 100000000000000) (hn : n ≤ 320) (hA : Nrow w ga 5 .u8 n A) (hB : Nrow w gb 5 .u8 n B) (hAb : ∀ i, i < n → A i ≤ 255) (hBb : ∀ i, i < n → B i ≤ 255) :
    Calls Try.prog 30 #[rv wa ga n, rv wb gb n] w fun e w' => ∃ g, e = .returned (rv (wa + wb) g n) ∧ w.heap.size ≤ g ∧ Nrow w' g 5 .u8 n (addV A B) ∧ Fr [] w w' := by
  obtain ⟨wz, hz⟩ : ∃ wz, wa + wb = wz := ⟨_, rfl⟩
  have ez : (wa : Int) + (wb : Int) = (wz : Int) := by omega
  have h1 : (wz : Int) ≤ 100000000000000 := by omega
  have h3 : (n : Int) ≤ 320 := by omega
  have hwz : IntKind.i64.wrap (wz : Int) = (wz : Int) := IntWalk.i64_in _ (by omega)
  have hmk := fun W => run_make_bytes W n (by omega)
  rw [hz]
  have HX := Lib.hid (And.intro hA (And.intro hB (And.intro hAb hBb)))
  have hga := lt_of hA
  have hgb := lt_of hB
  clear hz hw hn hA hB hAb hBb
  unfold rv
  go_enter Try.func30, Try.ntmps30
  go_wp2_with fail
  obtain ⟨W3, hW3⟩ : ∃ W3, ((w.alloc (.cells #[.int .i64 (wa : Int), .slice (some ⟨ga, 0, none⟩) n n] 56)).alloc (.cells #[.int .i64 (wb : Int), .slice (some ⟨gb, 0, none⟩) n n] 56)).alloc (.cells #[.int .i64 0, .slice none 0 0] 56) = W3 := ⟨_, rfl⟩
  rw [hW3]
  have hF : Fr [] w W3 := by rw [← hW3]; exact ((Fr.alloc [] _ _).trans (Fr.alloc [] _ _)).trans (Fr.alloc [] _ _)
  have sz3 : W3.heap.size = w.heap.size + 3 := by rw [← hW3]; simp
  have kA : W3.heap[w.heap.size]? = some (.cells #[.int .i64 (wa : Int), .slice (some ⟨ga, 0, none⟩) n n] 56) := by rw [← hW3]; exact ((Fr.alloc [] _ _).trans (Fr.alloc [] _ _)).blk (new_of w _) (by simp)
  have kB : W3.heap[w.heap.size + 1]? = some (.cells #[.int .i64 (wb : Int), .slice (some ⟨gb, 0, none⟩) n n] 56) := by
    rw [← hW3]
    have := new_of (w.alloc (.cells #[.int .i64 (wa : Int), .slice (some ⟨ga, 0, none⟩) n n] 56)) (.cells #[.int .i64 (wb : Int), .slice (some ⟨gb, 0, none⟩) n n] 56)
    rw [show (w.alloc (.cells #[.int .i64 (wa : Int), .slice (some ⟨ga, 0, none⟩) n n] 56)).heap.size = w.heap.size + 1 from Array.size_push _] at this
    exact (Fr.alloc [] _ _).blk this (by simp)
  have kZ : W3.heap[w.heap.size + 2]? = some (.cells #[.int .i64 0, .slice none 0 0] 56) := by
    rw [← hW3]
    have := new_of ((w.alloc (.cells #[.int .i64 (wa : Int), .slice (some ⟨ga, 0, none⟩) n n] 56)).alloc (.cells #[.int .i64 (wb : Int), .slice (some ⟨gb, 0, none⟩) n n] 56)) (.cells #[.int .i64 0, .slice none 0 0] 56)
    rw [show ((w.alloc (.cells #[.int .i64 (wa : Int), .slice (some ⟨ga, 0, none⟩) n n] 56)).alloc (.cells #[.int .i64 (wb : Int), .slice (some ⟨gb, 0, none⟩) n n] 56)).heap.size = w.heap.size + 2 by simp] at this
    exact this
  have c0 := cell_of kA 0
  have c1 := cell_of kA 1
  have c2 := cell_of kB 0
  simp at c0 c1 c2
  have HK := Lib.hid (And.intro hF (And.intro sz3 (And.intro kA (And.intro kB kZ))))
  clear hW3 hF sz3 kA kB kZ
  have n0 := World.new_ne W3 _ c0
  have n1 := World.new_ne W3 _ c1
  have n2 := World.new_ne W3 _ c2
  go_cut [5] from 7 to 16 (fun v5 wx => BothM W3 wz n v5 wx)
  case first =>
    go_region_held3 (fun w' => w'.cell? ⟨w.heap.size, 0, none⟩ = some (.int .i64 (wa : Int)) ∧ w'.cell? ⟨w.heap.size + 1, 0, none⟩ = some (.int .i64 (wb : Int)) ∧ w'.cell? ⟨w.heap.size, 1, none⟩ = some (.slice (some ⟨ga, 0, none⟩) n n)) (go_keep) (fail)
    all_goals go_wp2_with fail
    all_goals go_meet
    case rel => exact bothM_a W3 wz n
    case rel => exact bothM_b W3 wz n
  case rest =>
  obtain ⟨gv, gt, rfl, hgt, hNv, hgv3, hgt3, hne, hfc⟩ := hcut
  have HC := Lib.hid (And.intro hgt (And.intro hNv (And.intro hgv3 (And.intro hgt3 (And.intro hne hfc)))))
  clear hgt hNv hgv3 hgt3 hne hfc n0 n1 n2 c0 c1 c2 hmk
  go_wp2_with fail
  go_loopw [6] (fun v6 wr => ∃ i : Nat, v6 = .int .i64 (i : Int) ∧ i ≤ n ∧ Hid (Nrow wr gv 5 .u8 n (fun s => if s < i then addV A B s else 0)) ∧ Fr [gv] wc wr) (fun v6 _ => n - (intOf v6).toNat)
  case atStart => exact ⟨0, rfl, Nat.zero_le _, Lib.hid (HC.out.2.1.congr fun s _ => by simp), Fr.refl _ _⟩
  case round =>
    obtain ⟨i, rfl, hi, hN, hf⟩ := hrel
    have hgw : w.heap.size + 3 ≤ gv := by have := HC.out.2.2.1; have := HK.out.2.1; omega
    have bA := hf.blk (HC.out.2.2.2.2.2.blk HK.out.2.2.1 (by simp)) (by simp; omega)
    have bB := hf.blk (HC.out.2.2.2.2.2.blk HK.out.2.2.2.1 (by simp)) (by simp; omega)
    have bT := hf.blk HC.out.1 (by simpa using HC.out.2.2.2.2.1)
    have c1 := cell_of bA 1
    have c2 := cell_of bB 1
    have c3 := cell_of bT 1
    simp at c1 c2 c3
    by_cases hin : i < n
    · have hii : (i : Int) < (n : Int) := by omega
      have rA := ((HX.out.1.to (HK.out.1.trans HC.out.2.2.2.2.2) (by simp)).to hf (by simp; omega)).cell i hin
      have rB := ((HX.out.2.1.to (HK.out.1.trans HC.out.2.2.2.2.2) (by simp)).to hf (by simp; omega)).cell i hin
      have rV := hN.out.cell i hin
      have fz := free_of hN.out i
      have hglt := lt_of hN.out
      simp only [Nat.lt_irrefl, if_false] at rV
      obtain ⟨x, hx⟩ : ∃ x, A i = x := ⟨_, rfl⟩
      obtain ⟨y, hy⟩ : ∃ y, B i = y := ⟨_, rfl⟩
      obtain ⟨z, hz⟩ : ∃ z, (x + y) % 256 = z := ⟨_, rfl⟩
      have hxb : (x : Int) ≤ 255 := by have := HX.out.2.2.1 i hin; omega
      have hyb : (y : Int) ≤ 255 := by have := HX.out.2.2.2 i hin; omega
      rw [hx] at rA
      rw [hy] at rB
      have e1 : ((x : Int) + (y : Int)) % 256 = (z : Int) := by omega
      have hset := hN.out.set_ (G := fun s => if s < i + 1 then addV A B s else 0) i z (fun s _ => by
        by_cases h : s = i
        · subst h; simp [addV, hx, hy, hz]
        · simp only [if_neg h]
          by_cases h2 : s < i
          · rw [if_pos h2, if_pos (by omega)]
          · rw [if_neg h2, if_neg (by omega)])
      have HS := Lib.hid (And.intro hset hf)
      clear hset hf hN hx hy hz bA bB bT
      go_wp2_with fail
      refine wp_region_quiet_tail 15 (by kernel_rfl) (by kernel_rfl) ?_
      simp only [List.take_succ_cons, List.take_zero, List.drop_succ_cons, List.drop_zero]
      repeat go_big_quiet_step (fail)
      refine wpQuiet_nil ?_
      go_wp2_with fail
      exact ⟨⟨i + 1, by go_num, by omega, Lib.hid (HS.out.1.to (l := []) (Fr.drew (Fr.refl [] _)) (by simp)), HS.out.2.trans (Fr.drew (Fr.setCell _ _ _ _))⟩, by simp [intOf]; omega⟩
    · have hie : i = n := by omega
      have hid : decide (i < n) = false := by simp; omega
      have bZ := hf.blk (HC.out.2.2.2.2.2.blk HK.out.2.2.2.2 (by simp)) (by simp; omega)
      have c4 := cell_of bT 0
      have z0 := cell_of bZ 0
      have z1 := cell_of bZ 1
      have fz0 := free_of bZ 0
      have fz1 := free_of bZ 1
      have hzlt := lt_of bZ
      have hgtz : gt ≠ w.heap.size + 2 := by have := HC.out.2.2.2.1; have := HK.out.2.1; omega
      have hset := set_of (set_of bZ 0 (.int .i64 (wz : Int))) 1 (.slice (some ⟨gv, 0, none⟩) n n)
      have r0 := cell_of hset 0
      have r1 := cell_of hset 1
      have HF := Lib.hid (And.intro hN (And.intro hf hie))
      simp at c4 z0 z1 r0 r1
      have R0 := Lib.hid r0
      have R1 := Lib.hid r1
      clear bA bB bZ hset hN hf hie hi
      clear r0 r1
      go_wp2_with fail
      have q0 : ((wr.setCell ⟨w.heap.size + 1 + 1, 0, none⟩ (.int .i64 (wz : Int))).setCell ⟨w.heap.size + 1 + 1, 1, none⟩ (.slice (some ⟨gv, 0, none⟩) n n)).cell? ⟨w.heap.size + 1 + 1, 0, none⟩ = some (.int .i64 (wz : Int)) := R0.out
      have q1 : ((wr.setCell ⟨w.heap.size + 1 + 1, 0, none⟩ (.int .i64 (wz : Int))).setCell ⟨w.heap.size + 1 + 1, 1, none⟩ (.slice (some ⟨gv, 0, none⟩) n n)).cell? ⟨w.heap.size + 1 + 1, 1, none⟩ = some (.slice (some ⟨gv, 0, none⟩) n n) := R1.out
      obtain ⟨hN, hf, hie⟩ := HF.out
      have hsz := HC.out.2.2.2.2.2.size
      have hgw2 := HC.out.2.2.1
      have hsz3 := HK.out.2.1
      refine bodyPost_ret (v := rv wz gv n) (by simp [results, Try.results30, go_sem, q0, q1, rv]) rfl ⟨gv, rfl, by omega, ?_, ?_⟩
      · refine (((hN.out.congr fun s hs => ?_).to (Fr.setCell wr _ 0 _) ?_).to (Fr.setCell _ _ 1 _) ?_)
        · rw [if_pos (by omega)]
        · simp; omega
        · simp; omega
      · have hG := (hf.outL (HK.out.1.trans HC.out.2.2.2.2.2) (fun j hj => .inr (by simp at hj; omega)) : Fr [] w wr)
        exact ((Fr.setCell wr (w.heap.size + 1 + 1) 0 _).trans (Fr.setCell _ _ 1 _)).outL hG (fun j hj => .inr (by simp at hj; omega))
end Go.Proofs.Ytmajacfcfdljeaa
namespace Go.Proofs.Ytmajacfcfdljeaa
open Go.RowKit
set_option linter.unusedVariables false
set_option linter.unusedSimpArgs false

theorem elemV : Elem Try.prog 54 56 2 32 := by
  refine ⟨Try.underlying54, ?_⟩
  obtain ⟨i0, hi, hz0, hz1, hz2⟩ := info_parts (show (Try.prog.info? 56).map (fun i => (i.zero, i.size, i.bytes)) = some (some (.agg #[.int .i64 0, .slice none 0 0]), 2, 32) by kernel_rfl)
  exact ⟨i0, _, hi, hz0, hz1, hz2, rfl, by decide⟩
def Tv (wg g n : Nat) : List Value := [.int .i64 (wg : Int), .slice (some ⟨g, 0, none⟩) n n]
/-- How often each leaf is in a thing. -/
def vecP (sy : Nat → Nat) (p : PT) (i : Nat) : Nat := occ p (sy i) % 256
theorem vecP_node (sy : Nat → Nat) (a b : PT) : vecP sy (.node a b) = addV (vecP sy a) (vecP sy b) := by
  funext i
  unfold vecP addV
  simp only [occ]
  exact Nat.add_mod _ _ _
theorem vecP_le (sy : Nat → Nat) (p : PT) (i : Nat) : vecP sy p i ≤ 255 := by unfold vecP; omega
def d0 : Nat × PT := (0, .leaf 0)
def rowCells (n : Nat) (R : List (Nat × PT)) (G : Nat → Nat) : List Value := (List.range R.length).flatMap fun k => Tv (R.getD k d0).1 (G k) n
/-- A row of the reference's things, a call's own. -/
def Vrow (w : World) (B : Nat) (v : Value) (n : Nat) (sy : Nat → Nat) (R : List (Nat × PT)) : Prop :=
  ∃ G : Nat → Nat, w.ownsRow B 56 2 v R.length (rowCells n R G) ∧ ∀ k, k < R.length → Nrow w (G k) 5 .u8 n (vecP sy (R.getD k d0).2)
theorem Vrow.nil (w : World) (B n : Nat) (sy : Nat → Nat) : Vrow w B (.slice none 0 0) n sy [] := ⟨fun _ => 0, World.ownsRow_nil _ _ _ _, fun k hk => by simp at hk⟩
theorem vecs_grown {w w' : World} {B : Nat} {v : Value} {n : Nat} {xs : List Value} (h : w.ownsRow B 56 2 v n xs) (hg : w.grownBy w' v.ownBlock) {g N : Nat} {F : Nat → Nat} (hc : Nrow w g 5 .u8 N F) : Nrow w' g 5 .u8 N F := by
  have hc' := hc
  unfold Nrow at hc ⊢
  rw [hg.block g (lt_of hc) ?_, hc]
  intro he
  rcases h.2 with ⟨rfl, _⟩ | ⟨g', cap, cur, rfl, hb, hh, _⟩
  · simp [Value.ownBlock] at he
  · simp [Value.ownBlock] at he
    subst he
    rw [hc] at hh
    simp at hh
theorem Vrow.to {w w' : World} {B : Nat} {v : Value} {n : Nat} {sy : Nat → Nat} {R : List (Nat × PT)} (h : Vrow w B v n sy R) (f : Fr [] w w') : Vrow w' B v n sy R := by
  obtain ⟨G, h1, h2⟩ := h
  exact ⟨G, ownsRow_to h1 f (by simp), fun k hk => (h2 k hk).to f (by simp)⟩
/-- Another row of things is appended to. -/
theorem Vrow.grow {w w' : World} {B B' : Nat} {v v' : Value} {n m : Nat} {sy : Nat → Nat} {R : List (Nat × PT)} {xs : List Value} (h : Vrow w B v n sy R) (h' : w.ownsRow B' 56 2 v' m xs) (hg : w.grownBy w' v'.ownBlock) (hne : v.ownBlock = none ∨ v.ownBlock ≠ v'.ownBlock) : Vrow w' B v n sy R := by
  obtain ⟨G, h1, h2⟩ := h
  exact ⟨G, h1.kept hg hne, fun k hk => vecs_grown h' hg (h2 k hk)⟩
theorem rowCells_snoc (n : Nat) (R : List (Nat × PT)) (x : Nat × PT) (G : Nat → Nat) (g : Nat) : rowCells n (R ++ [x]) (fun k => if k = R.length then g else G k) = rowCells n R G ++ Tv x.1 g n := by
  unfold rowCells
  rw [List.length_append, List.length_cons, List.length_nil, Nat.zero_add, List.range_succ, List.flatMap_append]
  congr 1
  · have : ∀ l : List Nat, (∀ k ∈ l, k < R.length) → l.flatMap (fun k => Tv ((R ++ [x]).getD k d0).1 (if k = R.length then g else G k) n) = l.flatMap fun k => Tv (R.getD k d0).1 (G k) n := by
      intro l
      induction l with
      | nil => intro _; rfl
      | cons k l ih =>
        intro h
        have hk := h k (by simp)
        rw [List.flatMap_cons, List.flatMap_cons, ih (fun j hj => h j (by simp [hj])), if_neg (by omega)]
        congr 2
        rw [List.getD_eq_getElem?_getD, List.getElem?_append_left hk, ← List.getD_eq_getElem?_getD]
    exact this _ fun k hk => List.mem_range.1 hk
  · simp [List.getD_eq_getElem?_getD]
theorem Vrow.snoc {w : World} {B : Nat} {v : Value} {n g : Nat} {sy : Nat → Nat} {R : List (Nat × PT)} {x : Nat × PT} {G : Nat → Nat} (h1 : w.ownsRow B 56 2 v (R.length + 1) (rowCells n R G ++ Tv x.1 g n)) (h2 : ∀ k, k < R.length → Nrow w (G k) 5 .u8 n (vecP sy (R.getD k d0).2)) (h3 : Nrow w g 5 .u8 n (vecP sy x.2)) : Vrow w B v n sy (R ++ [x]) := by
  refine ⟨fun k => if k = R.length then g else G k, ?_, fun k hk => ?_⟩
  · rw [rowCells_snoc, List.length_append]; exact h1
  · simp only
    rw [List.length_append, List.length_cons, List.length_nil] at hk
    by_cases e : k = R.length
    · rw [if_pos e, e]
      simpa [List.getD_eq_getElem?_getD] using h3
    · rw [if_neg e]
      have := h2 k (by omega)
      rw [List.getD_eq_getElem?_getD, List.getElem?_append_left (by omega), ← List.getD_eq_getElem?_getD]
      exact this
theorem rowCells_get {n : Nat} {R : List (Nat × PT)} {G : Nat → Nat} {k j : Nat} (hk : k < R.length) (hj : j < 2) : (rowCells n R G)[k * 2 + j]? = (Tv (R.getD k d0).1 (G k) n)[j]? := by
  unfold rowCells
  obtain ⟨u, hu⟩ : ∃ u, (Tv (R.getD k d0).1 (G k) n)[j]? = some u := ⟨(Tv (R.getD k d0).1 (G k) n)[j]'(by simpa [Tv] using hj), List.getElem?_eq_getElem _⟩
  rw [hu]
  exact flatMap_get (enc := fun k => Tv (R.getD k d0).1 (G k) n) (sz := 2) (l := List.range R.length) (x := k) (fun x => rfl) (List.getElem?_range hk) hj hu
theorem vrow_cell {w : World} {B g cap n : Nat} {R : List (Nat × PT)} {G : Nat → Nat} (h : w.ownsRow B 56 2 (.slice (some ⟨g, 0, none⟩) R.length cap) R.length (rowCells n R G)) (k : Nat) (hk : k < R.length) :
    w.cell? ⟨g, k * 2, none⟩ = some (.int .i64 ((R.getD k d0).1 : Int)) ∧ w.cell? ⟨g, k * 2 + 1, none⟩ = some (.slice (some ⟨G k, 0, none⟩) n n) := by
  have h0 := h.cells (g := g) rfl (k * 2 + 0) _ (rowCells_get hk (by omega))
  have h1 := h.cells (g := g) rfl (k * 2 + 1) _ (rowCells_get hk (by omega))
  rw [add_none, Nat.zero_add] at h0 h1
  exact ⟨h0, h1⟩
theorem vown_lt {w : World} {B g cap n : Nat} {xs : List Value} (h : w.ownsRow B 56 2 (.slice (some ⟨g, 0, none⟩) n cap) n xs) : g < w.heap.size := (h.lt g rfl).2
end Go.Proofs.Ytmajacfcfdljeaa
namespace Go.Proofs.Ytmajacfcfdljeaa
open Go.RowKit
set_option linter.unusedVariables false
set_option linter.unusedSimpArgs false

/-- Four cells: two things' weights and rows. -/
def Four (g p q xw gx yw gy n : Nat) (w : World) : Prop :=
  w.cell? ⟨g, p * 2, none⟩ = some (.int .i64 (xw : Int)) ∧ w.cell? ⟨g, p * 2 + 1, none⟩ = some (.slice (some ⟨gx, 0, none⟩) n n) ∧ w.cell? ⟨g, q * 2, none⟩ = some (.int .i64 (yw : Int)) ∧ w.cell? ⟨g, q * 2 + 1, none⟩ = some (.slice (some ⟨gy, 0, none⟩) n n)
theorem Four.to {g p q xw gx yw gy n : Nat} {w w' : World} (h : Hid (g < w.heap.size ∧ Four g p q xw gx yw gy n w)) (b : Below w.heap.size w w') : Four g p q xw gx yw gy n w' := by
  obtain ⟨h0, h1, h2, h3, h4⟩ := h.out
  unfold Four
  rw [b.cell (p := ⟨g, p * 2, none⟩) h0, b.cell (p := ⟨g, p * 2 + 1, none⟩) h0, b.cell (p := ⟨g, q * 2, none⟩) h0, b.cell (p := ⟨g, q * 2 + 1, none⟩) h0]
  exact ⟨h1, h2, h3, h4⟩
/-- What holds at the head of a round of the first loop: m packages are made. -/
def NextA (w : World) (n : Nat) (sy : Nat → Nat) (R : List (Nat × PT)) (v5 v7 : Value) (wr : World) : Prop :=
  ∃ (m : Nat) (u5 : Value), u5 = v5 ∧ v7 = .int .i64 ((2 * m : Nat) : Int) ∧ 2 * m ≤ R.length ∧ Vrow wr w.heap.size v5 n sy ((prs PT.node R).take m) ∧ Below w.heap.size w wr
/-- What holds at the head of a round of the second loop: i leaves and k packages are taken. -/
def NextB (w wo : World) (n : Nat) (sy : Nat → Nat) (LL P : List (Nat × PT)) (g5 : Nat) (v6 v8 v9 : Value) (wr : World) : Prop :=
  ∃ (i k : Nat) (u6 : Value) (O : List (Nat × PT)), u6 = v6 ∧ v8 = .int .i64 (i : Int) ∧ v9 = .int .i64 (k : Int) ∧ i ≤ LL.length ∧ k ≤ P.length ∧ O.length = i + k ∧ mrg LL P = O ++ mrg (LL.drop i) (P.drop k) ∧ Vrow wr w.heap.size v6 n sy O ∧ v6.ownBlock ≠ some g5 ∧ (∀ b, v6.ownBlock = some b → wo.heap.size ≤ b) ∧ Fr [] wo wr
theorem mrg_fst {LL P : List (Nat × PT)} {i k : Nat} {x : Nat × PT} (hx : LL[i]? = some x) (h : P.length ≤ k ∨ ∃ y, P[k]? = some y ∧ x.1 ≤ y.1) : mrg (LL.drop i) (P.drop k) = x :: mrg (LL.drop (i + 1)) (P.drop k) := by
  obtain ⟨hi, he⟩ := List.getElem?_eq_some_iff.1 hx
  rw [List.drop_eq_getElem_cons hi, he]
  rcases h with h | ⟨y, hy, hxy⟩
  · rw [List.drop_eq_nil_of_le h, mrg_right, mrg_right]
  · obtain ⟨hk, hk2⟩ := List.getElem?_eq_some_iff.1 hy
    rw [List.drop_eq_getElem_cons hk, hk2, mrg_cons, if_pos hxy]
theorem mrg_snd {LL P : List (Nat × PT)} {i k : Nat} {y : Nat × PT} (hy : P[k]? = some y) (h : LL.length ≤ i ∨ ∃ x, LL[i]? = some x ∧ ¬ x.1 ≤ y.1) : mrg (LL.drop i) (P.drop k) = y :: mrg (LL.drop i) (P.drop (k + 1)) := by
  obtain ⟨hk, he⟩ := List.getElem?_eq_some_iff.1 hy
  rw [List.drop_eq_getElem_cons hk, he]
  rcases h with h | ⟨x, hx, hxy⟩
  · rw [List.drop_eq_nil_of_le h, mrg_nil, mrg_nil]
  · obtain ⟨hi, hi2⟩ := List.getElem?_eq_some_iff.1 hx
    rw [List.drop_eq_getElem_cons hi, hi2, mrg_cons, if_neg hxy]
theorem next_push {w wo wr w6 : World} {n L g5 g6 c6 xw gx : Nat} {sy G6 : Nat → Nat} {O : List (Nat × PT)} {xp : PT} {u6 : Value} {cs : Array Value} (hO : O.length = L) (hcs : cs.toList = Tv xw gx n)
    (HQ : Pushed w.heap.size w (wr.alloc (.cells cs 56)) w6 56 2 u6 g6 c6 (L + 1) (rowCells n O G6 ++ cs.toList))
    (h1 : wr.ownsRow w.heap.size 56 2 u6 L (rowCells n O G6)) (h2 : ∀ k, k < L → Nrow wr (G6 k) 5 .u8 n (vecP sy (O.getD k d0).2)) (hv : Nrow wr gx 5 .u8 n (vecP sy xp))
    (hne : u6.ownBlock ≠ some g5) (hge : ∀ b, u6.ownBlock = some b → wo.heap.size ≤ b) (hf : Fr [] wo wr) (hg5 : g5 < wr.heap.size) :
    Vrow w6 w.heap.size (.slice (some ⟨g6, 0, none⟩) (L + 1) c6) n sy (O ++ [(xw, xp)]) ∧ (Value.slice (some ⟨g6, 0, none⟩) (L + 1) c6).ownBlock ≠ some g5 ∧ (∀ b, (Value.slice (some ⟨g6, 0, none⟩) (L + 1) c6).ownBlock = some b → wo.heap.size ≤ b) ∧ Fr [] wo w6 := by
  subst hO
  have fA := Fr.alloc [] wr (.cells cs 56)
  have h1A := ownsRow_to h1 fA (by simp)
  have szA : (wr.alloc (.cells cs 56)).heap.size = wr.heap.size + 1 := Array.size_push _
  refine ⟨?_, ?_, ?_, ?_⟩
  · refine Vrow.snoc (g := gx) (G := G6) ?_ (fun k hk => vecs_grown h1A HQ.grown ((h2 k hk).to fA (by simp))) (vecs_grown h1A HQ.grown (hv.to fA (by simp)))
    have := HQ.own
    rw [hcs] at this
    exact this
  · simp only [Value.ownBlock]
    intro h
    have h' : g6 = g5 := by simpa using h
    subst h'
    rcases HQ.or_ with h3 | h3
    · exact hne h3
    · omega
  · intro b hb
    simp [Value.ownBlock] at hb
    subst hb
    rcases HQ.or_ with h3 | h3
    · exact hge _ h3
    · have := hf.size; omega
  · exact Fr.of_below (below_grown (hf.trans fA).below HQ.grown (by have := hf.size; omega) hge)
theorem getD_of_some {R : List (Nat × PT)} {k : Nat} {x : Nat × PT} (h : R[k]? = some x) : R.getD k d0 = x := by rw [List.getD_eq_getElem?_getD, h, Option.getD_some]
set_option maxRecDepth 2000000 in
set_option maxHeartbeats 6400000 in
theorem next_any (n gl cl gr cr : Nat) (sy : Nat → Nat) (LL R : List (Nat × PT)) (w : World) (B1 B2 : Nat) (hLL : Vrow w B1 (.slice (some ⟨gl, 0, none⟩) LL.length cl) n sy LL) (hR : Vrow w B2 (.slice (some ⟨gr, 0, none⟩) R.length cr) n sy R)
    (hn : n ≤ 320) (h2 : 2 ≤ R.length) (hRl : R.length ≤ 640) (hLl : LL.length ≤ 320) (hRw : ∀ x ∈ R, x.1 ≤ 40000000000000) (hLw : ∀ x ∈ LL, x.1 ≤ 40000000000000) :
    Calls Try.prog 22 #[.slice (some ⟨gl, 0, none⟩) LL.length cl, .slice (some ⟨gr, 0, none⟩) R.length cr] w fun e w' => ∃ v, e = .returned v ∧ Vrow w' w.heap.size v n sy (mrg LL (prs PT.node R)) ∧ Below w.heap.size w w' := by
  obtain ⟨r, hr⟩ : ∃ r, R.length = r := ⟨_, rfl⟩
  obtain ⟨nl, hnl⟩ : ∃ nl, LL.length = nl := ⟨_, rfl⟩
  have HX := Lib.hid (And.intro hLL (And.intro hR (And.intro hr (And.intro hnl (And.intro hRw (And.intro hLw hn))))))
  rw [hr] at h2 hRl ⊢
  rw [hnl] at hLl ⊢
  have h1 : (r : Int) ≤ 640 := by omega
  have h3 : (nl : Int) ≤ 320 := by omega
  clear hLL hR hr hnl hRw hLw hn
  go_enter Try.func22, Try.ntmps22
  go_wp2_with fail
  go_loopw [5, 7] (fun v5 v7 wr => NextA w n sy R v5 v7 wr) (fun _ v7 _ => r - (intOf v7).toNat)
  case atStart => exact ⟨0, _, rfl, rfl, Nat.zero_le _, by simpa using Vrow.nil _ _ _ _, Below.refl _ _⟩
  case round =>
    obtain ⟨m, u5, rfl, rfl, hm, hV, hbel⟩ := hrel
    obtain ⟨p, hp⟩ : ∃ p, 2 * m = p := ⟨_, rfl⟩
    rw [hp]
    obtain ⟨q, hq⟩ : ∃ q, p + 1 = q := ⟨_, rfl⟩
    have eq_ : (p : Int) + 1 = (q : Int) := by omega
    have hmr : m ≤ 320 := by have := HX.out.2.2.1; omega
    by_cases hqr : q < r
    · have hqi : (q : Int) < (r : Int) := by omega
      have hpi : (p : Int) < (r : Int) := by omega
      obtain ⟨Gr, hGr1, hGr2⟩ := HX.out.2.1
      have hrl := HX.out.2.2.1
      obtain ⟨c0, c1⟩ := vrow_cell hGr1 p (by omega)
      obtain ⟨e0, e1⟩ := vrow_cell hGr1 q (by omega)
      have hgr := vown_lt hGr1
      have vX := hGr2 p (by omega)
      have vY := hGr2 q (by omega)
      have hxp : R[p]? = some (R.getD p d0) := by rw [List.getD_eq_getElem?_getD, List.getElem?_eq_getElem (by omega), Option.getD_some]
      have hyq : R[q]? = some (R.getD q d0) := by rw [List.getD_eq_getElem?_getD, List.getElem?_eq_getElem (by omega), Option.getD_some]
      have bx := HX.out.2.2.2.2.1 _ (List.mem_of_getElem? hxp)
      have by_ := HX.out.2.2.2.2.1 _ (List.mem_of_getElem? hyq)
      obtain ⟨⟨xw, xp⟩, hX⟩ : ∃ z, R.getD p d0 = z := ⟨_, rfl⟩
      obtain ⟨⟨yw, yp⟩, hY⟩ : ∃ z, R.getD q d0 = z := ⟨_, rfl⟩
      rw [hX] at c0 vX hxp bx
      rw [hY] at e0 vY hyq by_
      simp only at c0 e0 vX vY bx by_
      obtain ⟨gx, hgx⟩ : ∃ gx, Gr p = gx := ⟨_, rfl⟩
      obtain ⟨gy, hgy⟩ : ∃ gy, Gr q = gy := ⟨_, rfl⟩
      rw [hgx] at c1 vX
      rw [hgy] at e1 vY
      obtain ⟨z, hz⟩ : ∃ z, xw + yw = z := ⟨_, rfl⟩
      have hzb : (z : Int) ≤ 80000000000000 := by omega
      have hpk := prs_get PT.node R m (xw, xp) (yw, yp) (by rw [hp]; exact hxp) (by rw [hp, hq]; exact hyq)
      have HK : Hid (gr < w.heap.size ∧ Four gr p q xw gx yw gy n w) := Lib.hid ⟨hgr, c0, c1, e0, e1⟩
      have f0 := Four.to HK hbel
      obtain ⟨k0, k1, k2, k3⟩ := f0
      have hgrr : gr < wr.heap.size := by have := hbel.size; omega
      have hwq : IntKind.i64.wrap (q : Int) = (q : Int) := IntWalk.i64_in _ (by omega)
      have HB := Lib.hid hbel
      have HBO := Lib.hid (fun W (f : Below w.heap.size w W) => both_any xw gx yw gy n (vecP sy xp) (vecP sy yp) W (by omega) HX.out.2.2.2.2.2.2 (vX.to (Fr.of_below (l := []) f) (by simp)) (vY.to (Fr.of_below (l := []) f) (by simp)) (fun i _ => vecP_le _ _ _) (fun i _ => vecP_le _ _ _))
      rw [hz] at HBO
      obtain ⟨G, hG1, hG2⟩ := hV
      have hml : ((prs PT.node R).take m).length = m := by rw [List.length_take, prs_length]; omega
      unfold rowCells at hG1
      rw [hml] at hG1 hG2
      have HV := Lib.hid (And.intro hG1 (And.intro hG2 (And.intro hml (And.intro hpk (And.intro hp (And.intro hq hz))))))
      unfold rv at HBO
      clear hG1 hG2 hml hpk hbel hGr1 hGr2 c0 c1 e0 e1 vX vY hxp hyq hX hY hgx hgy hz hp hq hm bx by_ hgr
      go_wp2_with fail
      go_region_held3 (fun w' => w'.cell? ⟨gr, p * 2, none⟩ = some (.int .i64 (xw : Int)) ∧ w'.cell? ⟨gr, p * 2 + 1, none⟩ = some (.slice (some ⟨gx, 0, none⟩) n n) ∧ w'.cell? ⟨gr, q * 2, none⟩ = some (.int .i64 (yw : Int)) ∧ w'.cell? ⟨gr, q * 2 + 1, none⟩ = some (.slice (some ⟨gy, 0, none⟩) n n))
        (first | go_keep | exact Four.to HK (f5.out ((Fr.drew (Fr.refl [] _)).out HB.out (by simp)) (by simp)) | exact Four.to HK ((Fr.alloc [] _ _).out (f5.out ((Fr.drew (Fr.refl [] _)).out HB.out (by simp)) (by simp)) (by simp)) | exact Four.to HK HQ.out.2.2.1)
        (first | (go_at_call 30; refine (HBO.out _ ?_).mono ?_; exact (Fr.drew (Fr.refl [] _)).out HB.out (by simp); rintro e w5 ⟨g5, rfl, hge5, hN5, f5⟩) | (refine step_push w.heap.size w _ (by rfl) (.tmp 17) (.tmp 28) 54 (by rfl) 56 2 32 elemV u5 m _ (by rfl) (Lib.hid (ownsRow_to HV.out.1 (((Fr.drew (Fr.refl [] _)).trans f5).trans (Fr.alloc [] _ _)) (by simp))) (Lib.hid ((Fr.alloc [] _ _).out (f5.out ((Fr.drew (Fr.refl [] _)).out HB.out (by simp)) (by simp)) (by simp))) (((Fr.alloc [] _ _).out (f5.out ((Fr.drew (Fr.refl [] _)).out HB.out (by simp)) (by simp)) (by simp)).size) #[.int .i64 (z : Int), .slice (some ⟨g5, 0, none⟩) n n] w5.heap.size 1 1 (by rfl) (new_of _ _) (by rfl) (by rfl) (by omega) (by omega) (by omega) ?_; intro g' cap' w6 HQ))
      go_wp2_with fail
      go_roundw
      case rel =>
        obtain ⟨hG1, hG2, hml, hpk, hp, hq, hz⟩ := HV.out
        obtain ⟨hown6, hgrow6, hbel6, hge6⟩ := HQ.out
        have hfa := ((Fr.drew (Fr.refl [] wr)).trans f5).trans (Fr.alloc [] w5 (.cells #[.int .i64 (z : Int), .slice (some ⟨g5, 0, none⟩) n n] 56))
        have hownA := ownsRow_to hG1 hfa (by simp)
        have hm2 : 2 * (m + 1) ≤ R.length := by have := HX.out.2.2.1; omega
        refine ⟨m + 1, _, rfl, by first | go_num | (rw [← hp]; congr 1; omega), hm2, ?_, hbel6⟩
        have e : (prs PT.node R).take (m + 1) = (prs PT.node R).take m ++ [(z, .node xp yp)] := by
          rw [List.take_add_one, hpk, Option.toList_some, hz]
        rw [e]
        refine Vrow.snoc (g := g5) (G := G) ?_ (fun k hk => ?_) ?_
        · rw [hml]
          unfold rowCells
          rw [hml]
          exact hown6
        · rw [hml] at hk
          exact vecs_grown hownA hgrow6 ((hG2 k hk).to hfa (by simp))
        · rw [vecP_node]
          exact vecs_grown hownA hgrow6 (hN5.to (Fr.alloc [] w5 _) (by simp))
      case measure => simp [intOf]; omega
    · have hqd : decide (q < r) = false := by simp; omega
      have hqb : (q : Int) ≤ 1300 := by omega
      have hm2 : m = r / 2 := by have := HX.out.2.2.1; omega
      have hPm : (prs PT.node R).take m = prs PT.node R := List.take_of_length_le (by rw [prs_length, HX.out.2.2.1]; omega)
      rw [hPm] at hV
      have hPl : (prs PT.node R).length = m := by rw [prs_length, HX.out.2.2.1, hm2]
      have hPw : ∀ x ∈ prs PT.node R, x.1 ≤ 80000000000000 := fun x hx => by
        obtain ⟨k, hk⟩ := List.getElem?_of_mem hx
        have hkl := (List.getElem?_eq_some_iff.1 hk).1
        rw [hPl] at hkl
        have hRl2 := HX.out.2.2.1
        have := prs_get PT.node R k R[2 * k] R[2 * k + 1] (List.getElem?_eq_getElem (by omega)) (List.getElem?_eq_getElem (by omega))
        rw [hk] at this
        simp at this
        have h5 := HX.out.2.2.2.2.1 R[2 * k] (List.getElem_mem _)
        have h6 := HX.out.2.2.2.2.1 R[2 * k + 1] (List.getElem_mem _)
        rw [this]; simp only; omega
      obtain ⟨P, hP⟩ : ∃ P, prs PT.node R = P := ⟨_, rfl⟩
      rw [hP] at hV hPl hPw
      have HPE := Lib.hid hP
      have hm0 : 0 < m := by omega
      obtain ⟨G5, hG51, hG52⟩ := hV
      rw [hPl] at hG51 hG52
      rcases hG51.2 with ⟨_, h0⟩ | ⟨g5, c5, cur5, hv5, _⟩
      · omega
      subst hv5
      have hmi : (m : Int) ≤ 320 := by omega
      have hg5 := hG51.lt g5 rfl
      obtain ⟨wo, hwo⟩ : ∃ wo, wo = wr := ⟨wr, rfl⟩
      subst hwo
      have HP := Lib.hid (And.intro hG51 (And.intro hG52 (And.intro hPl (And.intro hPw (And.intro hg5 hbel)))))
      clear hG51 hG52 hPl hPw hg5 hbel hPm hm2 hP hqr hm
      go_wp2_with fail
      go_loopw [6, 8, 9] (fun v6 v8 v9 wr => NextB w wo n sy LL P g5 v6 v8 v9 wr) (fun _ v8 v9 _ => nl + m - (intOf v8).toNat - (intOf v9).toNat)
      case atStart => exact ⟨0, 0, _, [], rfl, rfl, rfl, Nat.zero_le _, Nat.zero_le _, rfl, by simp, Vrow.nil _ _ _ _, by simp [Value.ownBlock], fun b hb => by simp [Value.ownBlock] at hb, Fr.refl _ _⟩
      case round =>
        obtain ⟨i, k, u6, O, rfl, rfl, rfl, hi, hk, hOl, hO, hV6, hne, hge, hf⟩ := hrel
        rw [HX.out.2.2.2.1] at hi
        rw [HP.out.2.2.1] at hk
        have hki : (k : Int) ≤ (m : Int) := by omega
        have hii : (i : Int) ≤ (nl : Int) := by omega
        obtain ⟨GL, hGL1, hGL2⟩ := HX.out.1
        have hLl := HX.out.2.2.2.1
        have hPl := HP.out.2.2.1
        have hszw := HP.out.2.2.2.2.2.size
        have hgl := vown_lt hGL1
        have hbw : Below w.heap.size w wr := hf.out HP.out.2.2.2.2.2 (by simp)
        have hszo : w.heap.size ≤ wr.heap.size := hbw.size
        have hg5r : g5 < wr.heap.size := Nat.lt_of_lt_of_le HP.out.2.2.2.2.1.2 hf.size
        have hglr : gl < wr.heap.size := by omega
        obtain ⟨G6, hG61, hG62⟩ := hV6
        have HB := Lib.hid hbw
        have hG51r := ownsRow_to HP.out.1 hf (by simp)
        -- which comes next
        have hwhich : (∃ x, LL[i]? = some x ∧ i < nl ∧ (m ≤ k ∨ k < m ∧ ∃ y, P[k]? = some y ∧ x.1 ≤ y.1)) ∨ (∃ y, P[k]? = some y ∧ k < m ∧ (nl ≤ i ∨ i < nl ∧ ∃ x, LL[i]? = some x ∧ ¬ x.1 ≤ y.1)) ∨ (nl ≤ i ∧ m ≤ k) := by
          by_cases h1 : i < nl
          · have hx : LL[i]? = some LL[i] := List.getElem?_eq_getElem (by omega)
            by_cases h2 : k < m
            · have hy : P[k]? = some P[k] := List.getElem?_eq_getElem (by omega)
              by_cases h3 : LL[i].1 ≤ P[k].1
              · exact .inl ⟨_, hx, h1, .inr ⟨h2, _, hy, h3⟩⟩
              · exact .inr (.inl ⟨_, hy, h2, .inr ⟨h1, _, hx, h3⟩⟩)
            · exact .inl ⟨_, hx, h1, .inl (by omega)⟩
          · by_cases h2 : k < m
            · exact .inr (.inl ⟨_, List.getElem?_eq_getElem (by omega), h2, .inl (by omega)⟩)
            · exact .inr (.inr ⟨by omega, by omega⟩)
        have hOl2 : O.length ≤ 640 := by omega
        rcases hwhich with ⟨x, hx, hin, hcase⟩ | ⟨y, hy, hkm, hcase⟩ | ⟨hin, hkm⟩
        · -- a leaf
          obtain ⟨xw, xp⟩ := x
          have gx_ := getD_of_some hx
          obtain ⟨c0, c1⟩ := vrow_cell hGL1 i (by omega)
          have vX := hGL2 i (by omega)
          rw [gx_] at c0 vX
          simp only at c0 vX
          obtain ⟨gx, hgx⟩ : ∃ gx, GL i = gx := ⟨_, rfl⟩
          rw [hgx] at c1 vX
          have k0 : wr.cell? ⟨gl, i * 2, none⟩ = some (.int .i64 (xw : Int)) := by rw [hbw.cell (p := ⟨gl, i * 2, none⟩) hgl]; exact c0
          have k1 : wr.cell? ⟨gl, i * 2 + 1, none⟩ = some (.slice (some ⟨gx, 0, none⟩) n n) := by rw [hbw.cell (p := ⟨gl, i * 2 + 1, none⟩) hgl]; exact c1
          have bx := HX.out.2.2.2.2.2.1 _ (List.mem_of_getElem? hx)
          have hxwb : (xw : Int) ≤ 40000000000000 := by simp only at bx; omega
          have hini : (i : Int) < (nl : Int) := by omega
          have HS := Lib.hid (And.intro hG61 (And.intro hG62 (And.intro (vX.to (Fr.of_below (l := []) hbw) (by simp)) (And.intro hne (And.intro hge (And.intro hf (And.intro hOl hO)))))))
          have HO6 := Lib.hid hG61
          rcases hcase with hmk | ⟨hkm, ⟨yw, yp⟩, hy, hxy⟩
          · have hmki : (m : Int) ≤ (k : Int) := by omega
            have hkmd : decide (k < m) = false := by simp; omega
            have HM := Lib.hid (mrg_fst (P := P) (k := k) hx (.inl (by omega)))
            clear hG61 hG62 hG51r hbw hO hOl hne hge hGL1 hGL2 hf c0 c1 vX hgx gx_ hx bx hmk
            go_wp2_with fail
            refine wp_region_quiet_tail 22 (by kernel_rfl) (by kernel_rfl) ?_
            simp only [List.take_succ_cons, List.take_zero, List.drop_succ_cons, List.drop_zero]
            repeat go_big_quiet_step (fail)
            refine wpQuiet_nil ?_
            have HO7 := Lib.hid (ownsRow_to HO6.out (Fr.drew (Fr.refl [] wr)) (by simp))
            have HB7 := Lib.hid ((Fr.drew (Fr.refl [] wr)).out HB.out (by simp))
            go_wp2_with (first | (at_builtin; go_must (refine wpList_push w.heap.size w wr.drew rfl (.tmp 63) (.tmp 68) 54 rfl 56 2 32 elemV u6 O.length _ rfl HO7 HB7 hszo #[.int .i64 (xw : Int), .slice (some ⟨gx, 0, none⟩) n n] 1 1 rfl rfl rfl (by omega) (by omega) (by omega) ?_); intro g6 c6 w6 HQ))
            obtain ⟨s1, s2, s3, s4, s5, s6, s7, s8⟩ := HS.out
            have hfin := next_push (O := O) (xp := xp) rfl rfl HQ.out (ownsRow_to s1 (Fr.drew (Fr.refl [] wr)) (by simp)) (fun k hk => (s2 k hk).to (Fr.drew (Fr.refl [] wr)) (by simp)) (s3.to (Fr.drew (Fr.refl [] wr)) (by simp)) s4 s5 s6.drew hg5r
            exact ⟨⟨i + 1, k, _, O ++ [(xw, xp)], rfl, by go_num, rfl, by omega, by omega, by rw [List.length_append, s7]; simp; omega, by rw [s8, HM.out, List.append_assoc]; rfl, hfin.1, hfin.2.1, hfin.2.2.1, hfin.2.2.2⟩, by simp [intOf]; omega⟩
          · have hkmi : (k : Int) < (m : Int) := by omega
            have gy_ := getD_of_some hy
            have hG51r2 := hG51r
            rw [← hPl] at hG51r2
            obtain ⟨e0, _⟩ := vrow_cell hG51r2 k (by omega)
            rw [gy_] at e0
            simp only at e0
            have by_ := HP.out.2.2.2.1 _ (List.mem_of_getElem? hy)
            have hywb : (yw : Int) ≤ 80000000000000 := by simp only at by_; omega
            have hxyi : (xw : Int) ≤ (yw : Int) := by simp only at hxy; omega
            have hmkd : decide (m ≤ k) = false := by simp; omega
            have HM := Lib.hid (mrg_fst (LL := LL) (i := i) hx (.inr ⟨_, hy, hxy⟩))
            clear hG61 hG62 hG51r hG51r2 hbw hO hOl hne hge hGL1 hGL2 hf c0 c1 vX hgx gx_ hx bx hxy hy gy_ by_
            go_wp2_with fail
            refine wp_region_quiet_tail 22 (by kernel_rfl) (by kernel_rfl) ?_
            simp only [List.take_succ_cons, List.take_zero, List.drop_succ_cons, List.drop_zero]
            repeat go_big_quiet_step (fail)
            refine wpQuiet_nil ?_
            have HO7 := Lib.hid (ownsRow_to HO6.out (Fr.drew (Fr.refl [] wr)) (by simp))
            have HB7 := Lib.hid ((Fr.drew (Fr.refl [] wr)).out HB.out (by simp))
            go_wp2_with (first | (at_builtin; go_must (refine wpList_push w.heap.size w wr.drew rfl (.tmp 63) (.tmp 68) 54 rfl 56 2 32 elemV u6 O.length _ rfl HO7 HB7 hszo #[.int .i64 (xw : Int), .slice (some ⟨gx, 0, none⟩) n n] 1 1 rfl rfl rfl (by omega) (by omega) (by omega) ?_); intro g6 c6 w6 HQ))
            obtain ⟨s1, s2, s3, s4, s5, s6, s7, s8⟩ := HS.out
            have hfin := next_push (O := O) (xp := xp) rfl rfl HQ.out (ownsRow_to s1 (Fr.drew (Fr.refl [] wr)) (by simp)) (fun k hk => (s2 k hk).to (Fr.drew (Fr.refl [] wr)) (by simp)) (s3.to (Fr.drew (Fr.refl [] wr)) (by simp)) s4 s5 s6.drew hg5r
            exact ⟨⟨i + 1, k, _, O ++ [(xw, xp)], rfl, by go_num, rfl, by omega, by omega, by rw [List.length_append, s7]; simp; omega, by rw [s8, HM.out, List.append_assoc]; rfl, hfin.1, hfin.2.1, hfin.2.2.1, hfin.2.2.2⟩, by simp [intOf]; omega⟩
        · obtain ⟨yw, yp⟩ := y
          have gy_ := getD_of_some hy
          have hG51r2 := hG51r
          rw [← hPl] at hG51r2
          obtain ⟨e0, e1⟩ := vrow_cell hG51r2 k (by omega)
          have vY := (HP.out.2.1 k hkm).to hf (by simp)
          rw [gy_] at e0 vY
          simp only at e0 vY
          obtain ⟨gy, hgy⟩ : ∃ gy, G5 k = gy := ⟨_, rfl⟩
          rw [hgy] at e1 vY
          have by_ := HP.out.2.2.2.1 _ (List.mem_of_getElem? hy)
          have hywb : (yw : Int) ≤ 80000000000000 := by simp only at by_; omega
          have hkmi : (k : Int) < (m : Int) := by omega
          have hmkd : decide (m ≤ k) = false := by simp; omega
          have HS := Lib.hid (And.intro hG61 (And.intro hG62 (And.intro vY (And.intro hne (And.intro hge (And.intro hf (And.intro hOl hO)))))))
          have HO6 := Lib.hid hG61
          rcases hcase with hnk | ⟨hin, ⟨xw, xp⟩, hx, hxy⟩
          · have hnki : (nl : Int) ≤ (i : Int) := by omega
            have hind : decide (i < nl) = false := by simp; omega
            have HM := Lib.hid (mrg_snd (LL := LL) (i := i) hy (.inl (by omega)))
            clear hG61 hG62 hG51r hG51r2 hbw hO hOl hne hge hGL1 hGL2 hf vY hgy gy_ hy by_ hnk hkm
            go_wp2_with fail
            refine wp_region_quiet_tail 22 (by kernel_rfl) (by kernel_rfl) ?_
            simp only [List.take_succ_cons, List.take_zero, List.drop_succ_cons, List.drop_zero]
            repeat go_big_quiet_step (fail)
            refine wpQuiet_nil ?_
            have HO7 := Lib.hid (ownsRow_to HO6.out (Fr.drew (Fr.refl [] wr)) (by simp))
            have HB7 := Lib.hid ((Fr.drew (Fr.refl [] wr)).out HB.out (by simp))
            go_wp2_with (first | (at_builtin; go_must (refine wpList_push w.heap.size w wr.drew rfl (.tmp 72) (.tmp 77) 54 rfl 56 2 32 elemV u6 O.length _ rfl HO7 HB7 hszo #[.int .i64 (yw : Int), .slice (some ⟨gy, 0, none⟩) n n] 1 1 rfl rfl rfl (by omega) (by omega) (by omega) ?_); intro g6 c6 w6 HQ))
            obtain ⟨s1, s2, s3, s4, s5, s6, s7, s8⟩ := HS.out
            have hfin := next_push (O := O) (xp := yp) rfl rfl HQ.out (ownsRow_to s1 (Fr.drew (Fr.refl [] wr)) (by simp)) (fun k hk => (s2 k hk).to (Fr.drew (Fr.refl [] wr)) (by simp)) (s3.to (Fr.drew (Fr.refl [] wr)) (by simp)) s4 s5 s6.drew hg5r
            exact ⟨⟨i, k + 1, _, O ++ [(yw, yp)], rfl, rfl, by go_num, by omega, by omega, by rw [List.length_append, s7]; simp; omega, by rw [s8, HM.out, List.append_assoc]; rfl, hfin.1, hfin.2.1, hfin.2.2.1, hfin.2.2.2⟩, by simp [intOf]; omega⟩
          · have hini : (i : Int) < (nl : Int) := by omega
            have gx_ := getD_of_some hx
            obtain ⟨c0, _⟩ := vrow_cell hGL1 i (by omega)
            rw [gx_] at c0
            simp only at c0
            have k0 : wr.cell? ⟨gl, i * 2, none⟩ = some (.int .i64 (xw : Int)) := by rw [hbw.cell (p := ⟨gl, i * 2, none⟩) hgl]; exact c0
            have bx := HX.out.2.2.2.2.2.1 _ (List.mem_of_getElem? hx)
            have hxwb : (xw : Int) ≤ 40000000000000 := by simp only at bx; omega
            have hxyi : (yw : Int) < (xw : Int) := by simp only at hxy; omega
            have HM := Lib.hid (mrg_snd (P := P) (k := k) hy (.inr ⟨_, hx, hxy⟩))
            clear hG61 hG62 hG51r hG51r2 hbw hO hOl hne hge hGL1 hGL2 hf vY hgy gy_ hy by_ hkm gx_ c0 hx bx hxy
            go_wp2_with fail
            refine wp_region_quiet_tail 22 (by kernel_rfl) (by kernel_rfl) ?_
            simp only [List.take_succ_cons, List.take_zero, List.drop_succ_cons, List.drop_zero]
            repeat go_big_quiet_step (fail)
            refine wpQuiet_nil ?_
            have HO7 := Lib.hid (ownsRow_to HO6.out (Fr.drew (Fr.refl [] wr)) (by simp))
            have HB7 := Lib.hid ((Fr.drew (Fr.refl [] wr)).out HB.out (by simp))
            go_wp2_with (first | (at_builtin; go_must (refine wpList_push w.heap.size w wr.drew rfl (.tmp 72) (.tmp 77) 54 rfl 56 2 32 elemV u6 O.length _ rfl HO7 HB7 hszo #[.int .i64 (yw : Int), .slice (some ⟨gy, 0, none⟩) n n] 1 1 rfl rfl rfl (by omega) (by omega) (by omega) ?_); intro g6 c6 w6 HQ))
            obtain ⟨s1, s2, s3, s4, s5, s6, s7, s8⟩ := HS.out
            have hfin := next_push (O := O) (xp := yp) rfl rfl HQ.out (ownsRow_to s1 (Fr.drew (Fr.refl [] wr)) (by simp)) (fun k hk => (s2 k hk).to (Fr.drew (Fr.refl [] wr)) (by simp)) (s3.to (Fr.drew (Fr.refl [] wr)) (by simp)) s4 s5 s6.drew hg5r
            exact ⟨⟨i, k + 1, _, O ++ [(yw, yp)], rfl, rfl, by go_num, by omega, by omega, by rw [List.length_append, s7]; simp; omega, by rw [s8, HM.out, List.append_assoc]; rfl, hfin.1, hfin.2.1, hfin.2.2.1, hfin.2.2.2⟩, by simp [intOf]; omega⟩
        · have hin' : decide (i < nl) = false := by simp; omega
          have hkm' : decide (k < m) = false := by simp; omega
          have hend : O = mrg LL P := by rw [hO, List.drop_eq_nil_of_le (by omega), List.drop_eq_nil_of_le (by omega), mrg_nil, List.append_nil]
          have HE := Lib.hid (show Vrow wr w.heap.size u6 n sy (mrg LL P) from hend ▸ ⟨G6, hG61, hG62⟩)
          clear hG61 hG62 hG51r hf hbw hO hOl hne hge hGL1 hGL2
          go_wp2_with fail
          go_ret
          rw [HPE.out]
          exact ⟨_, rfl, HE.out, HB.out⟩
end Go.Proofs.Ytmajacfcfdljeaa
namespace Go.Proofs.Ytmajacfcfdljeaa
open Go.RowKit
set_option linter.unusedVariables false
set_option linter.unusedSimpArgs false

theorem lev_w {L : List (Nat × PT)} (h : ∀ x ∈ L, x.1 ≤ 1073741824) : ∀ j, ∀ x ∈ lev PT.node L j, x.1 ≤ 2 ^ (30 + j)
  | 0, x, hx => Nat.le_trans (h x hx) (by decide)
  | j + 1, x, hx => by
    have ih := lev_w h j
    have e : 2 ^ (30 + (j + 1)) = 2 ^ (30 + j) * 2 := Nat.pow_succ _ _
    have e0 : 2 ^ 30 ≤ 2 ^ (30 + j) := Nat.pow_le_pow_right (by decide) (by omega)
    rw [lev] at hx
    rcases List.mem_append.1 ((mrg_perm _ _).subset hx) with hx | hx
    · have := h x hx; omega
    · obtain ⟨k, hk⟩ := List.getElem?_of_mem hx
      have hkl := (List.getElem?_eq_some_iff.1 hk).1
      rw [prs_length] at hkl
      have := prs_get PT.node (lev PT.node L j) k (lev PT.node L j)[2 * k] (lev PT.node L j)[2 * k + 1] (List.getElem?_eq_getElem (by omega)) (List.getElem?_eq_getElem (by omega))
      rw [hk] at this
      simp at this
      have h5 := ih _ (List.getElem_mem (show 2 * k < (lev PT.node L j).length by omega))
      have h6 := ih _ (List.getElem_mem (show 2 * k + 1 < (lev PT.node L j).length by omega))
      rw [this]; simp only; omega
set_option maxRecDepth 2000000 in
set_option maxHeartbeats 6400000 in
/-- A limit that may not be, or too many counts. -/
theorem refLens_a (a : Option Addr) (c : Nat) (l : List Int) (limit : Int) (w : World) (hl : l.length ≤ 9223372036854775807) (hg0 : -9223372036854775808 ≤ limit) (hg1 : limit ≤ 9223372036854775807) (hb : 320 < l.length ∨ limit < 1 ∨ 15 < limit) :
    Calls Try.prog 10 #[.slice a l.length c, .int .i64 limit] w fun e w' => e = .returned (.tuple #[.slice none 0 0, .int .i64 2]) ∧ w' = w := by
  have hl1 : (l.length : Int) ≤ 9223372036854775807 := by omega
  by_cases h1 : 320 < l.length
  · have h1i : 320 < (l.length : Int) := by omega
    clear hb hl
    go_enter Try.func10, Try.ntmps10
    go_wp2_with fail
    go_ret2
    exact ⟨rfl, rfl⟩
  · have h1i : (l.length : Int) ≤ 320 := by omega
    by_cases h2 : limit < 1
    · clear hb hl h1
      go_enter Try.func10, Try.ntmps10
      go_wp2_with fail
      go_ret2
      exact ⟨rfl, rfl⟩
    · have h2i : 1 ≤ limit := by omega
      have h3 : 15 < limit := by omega
      clear hb hl h1 h2
      go_enter Try.func10, Try.ntmps10
      go_wp2_with fail
      go_ret2
      exact ⟨rfl, rfl⟩
set_option maxRecDepth 2000000 in
set_option maxHeartbeats 6400000 in
/-- A count that may not be. -/
theorem refLens_b (a : Option Addr) (c : Nat) (l : List Int) (limit : Int) (w : World) (hs : SlOf (Zn .i64) 1 w a l) (hl : l.length ≤ 320) (hg0 : 1 ≤ limit) (hg1 : limit ≤ 15) (hb : badC l) :
    Calls Try.prog 10 #[.slice a l.length c, .int .i64 limit] w fun e w' => e = .returned (.tuple #[.slice none 0 0, .int .i64 2]) ∧ w' = w := by
  have hl1 : (l.length : Int) ≤ 320 := by omega
  have HX := Lib.hid (And.intro hs (And.intro hl hb))
  clear hs hl hb
  go_enter Try.func10, Try.ntmps10
  go_wp2_with fail
  go_loopw [6] (fun v6 wr => ∃ j : Nat, v6 = .int .i64 (j : Int) ∧ j ≤ l.length ∧ Hid (∀ x ∈ l.take j, 0 ≤ x ∧ x ≤ 1073741824) ∧ wr = w) (fun v6 _ => l.length - (intOf v6).toNat)
  case atStart => exact ⟨0, rfl, Nat.zero_le _, Lib.hid (fun x hx => by simp at hx), rfl⟩
  case round =>
    obtain ⟨j, rfl, hj, hok, hw⟩ := hrel
    replace hw := hw.symm
    subst hw
    by_cases hjl : j < l.length
    · have hji : (j : Int) < (l.length : Int) := by omega
      obtain ⟨x, hx⟩ : ∃ x, l[j]? = some x := ⟨l[j], List.getElem?_eq_getElem hjl⟩
      obtain ⟨g1, o1, rfl, hb1, hc1⟩ := HX.out.1 (by intro h; rw [h] at hx; simp at hx)
      have c1 := hc1 j x hx 0 (.int .i64 x) rfl
      rw [Nat.mul_one, Nat.add_zero] at c1
      have HH := Lib.hid hx
      by_cases h0 : x < 0
      · clear hc1 hx
        go_wp2_with fail
        go_ret2
        exact ⟨rfl, rfl⟩
      · have h0i : 0 ≤ x := by omega
        by_cases h1 : 1073741824 < x
        · clear hc1 hx h0
          go_wp2_with fail
          go_ret2
          exact ⟨rfl, rfl⟩
        · have h1i : x ≤ 1073741824 := by omega
          clear hc1 hx h0 h1
          go_wp2_with fail
          refine ⟨⟨j + 1, by go_num, by omega, Lib.hid (fun y hy => ?_), by first | rfl | trivial⟩, by simp [intOf]; omega⟩
          rw [List.take_add_one, HH.out] at hy
          rcases List.mem_append.1 hy with hy | hy
          · exact hok.out y hy
          · simp at hy; omega
    · exfalso
      have hje : j = l.length := by omega
      have := hok.out
      rw [hje, List.take_length] at this
      rcases HX.out.2.2 with h | ⟨x, hx, h⟩
      · have := HX.out.2.1; omega
      · have := this x hx; omega
/-- Behind the checks: the symbols, and how many there are. -/
def RefS (w : World) (l : List Int) (n : Nat) (v7 : Value) (F : Nat → Nat) (wr : World) : Prop :=
  wr.ownsRow w.heap.size 3 1 v7 n (ivs n F) ∧ (List.range n).map (fun k => (wt0 l (F k), F k)) = sortC l ∧ Below w.heap.size w wr
theorem refS_get {l : List Int} {n : Nat} {F : Nat → Nat} (h : (List.range n).map (fun k => (wt0 l (F k), F k)) = sortC l) {k : Nat} (hk : k < n) : (sortC l)[k]? = some (wt0 l (F k), F k) := by
  rw [← h, List.getElem?_map, List.getElem?_range hk]; rfl
theorem refS_is {l : List Int} {n : Nat} {F : Nat → Nat} (h : (List.range n).map (fun k => (wt0 l (F k), F k)) = sortC l) {k : Nat} (hk : k < n) : ∃ c, l[F k]? = some c ∧ 0 < c ∧ wt0 l (F k) = c.toNat :=
  (sortC_mem l _).1 (List.mem_of_getElem? (refS_get h hk))
theorem refS_inj {l : List Int} {n : Nat} {F : Nat → Nat} (h : (List.range n).map (fun k => (wt0 l (F k), F k)) = sortC l) {i k : Nat} (hi : i < n) (hk : k < n) (he : F i = F k) : i = k := by
  have hd := sortC_dst l
  unfold dst at hd
  rw [List.pairwise_map, List.pairwise_iff_getElem] at hd
  have hlen : (sortC l).length = n := by rw [← h]; simp
  have gi := (List.getElem?_eq_some_iff.1 (refS_get h hi)).2
  have gk := (List.getElem?_eq_some_iff.1 (refS_get h hk)).2
  rcases Nat.lt_trichotomy i k with hik | hik | hik
  · have := hd i k (by omega) (by omega) hik
    rw [gi, gk] at this
    simp only [leafP, symP] at this
    exact absurd he this
  · exact hik
  · have := hd k i (by omega) (by omega) hik
    rw [gi, gk] at this
    simp only [leafP, symP] at this
    exact absurd he.symm this
end Go.Proofs.Ytmajacfcfdljeaa
namespace Go.Proofs.Ytmajacfcfdljeaa
open Go.RowKit
set_option linter.unusedVariables false
set_option linter.unusedSimpArgs false

theorem lev_occs (l : List Int) (j k : Nat) (hk : k ≤ (lev PT.node ((sortC l).map leafP) j).length) (s : Nat) :
    tot (fun x : Nat × PT => occ x.2 s) ((lev PT.node ((sortC l).map leafP) j).take k) ≤ j + 1 ∧ ((∀ p ∈ sortC l, s ≠ p.2) → tot (fun x : Nat × PT => occ x.2 s) ((lev PT.node ((sortC l).map leafP) j).take k) = 0) := by
  obtain ⟨a, a1, a2, a3, _, _⟩ := len_shape symP PT.node occ (fun _ _ _ => rfl) ((sortC l).map leafP) (occ_leafP _) (sortC_srt l) j k hk
  rw [a3]
  refine ⟨?_, fun hn => ?_⟩
  · have hone : ∀ m, kap symP (((sortC l).map leafP).take m) s ≤ 1 := by
      intro m
      by_cases hex : ∃ x ∈ (sortC l).map leafP, s = symP x.2
      · obtain ⟨x, hx, rfl⟩ := hex
        obtain ⟨q, hq⟩ := List.getElem?_of_mem hx
        rw [kap_get symP _ m q x (sortC_dst l) hq]
        split <;> omega
      · rw [kap_out symP _ s fun y hy he => hex ⟨y, List.mem_of_mem_take hy, he⟩]; omega
    refine Nat.le_trans (sumTo_le _ (fun _ => 1) j fun i _ => hone _) ?_
    rw [sumTo_const]; omega
  · rw [sumTo_congr _ (fun _ => 0) j (fun i _ => kap_out symP _ _ fun y hy he => by
      obtain ⟨p, hp, rfl⟩ := List.mem_map.1 (List.mem_of_mem_take hy)
      exact hn p hp he), sumTo_const]
    simp
theorem occ_some : ∀ p : PT, ∃ s, 0 < occ p s
  | .leaf s => ⟨s, by simp [occ]⟩
  | .node a b => by obtain ⟨s, h⟩ := occ_some a; exact ⟨s, by simp only [occ]; omega⟩
/-- How often a symbol is in the first things of a row. -/
def sumL (R : List (Nat × PT)) (i s : Nat) : Nat := tot (fun x : Nat × PT => occ x.2 s) (R.take i)
theorem sumL_succ (R : List (Nat × PT)) (i s : Nat) (hi : i < R.length) : sumL R (i + 1) s = sumL R i s + occ (R.getD i d0).2 s := by
  unfold sumL
  rw [List.take_add_one, List.getElem?_eq_getElem hi, tot_append, List.getD_eq_getElem?_getD, List.getElem?_eq_getElem hi]
  simp [tot]
/-- What is out behind i things and k symbols of the next one. -/
def outV (R : List (Nat × PT)) (F : Nat → Nat) (i k s : Nat) : Nat := (sumL R i s + if ((List.range k).any fun t => F t == s) = true then occ (R.getD i d0).2 s else 0) % 256
theorem outV_zero (R : List (Nat × PT)) (F : Nat → Nat) (i s : Nat) : outV R F i 0 s = sumL R i s % 256 := by simp [outV]
theorem any_iff (F : Nat → Nat) (k s : Nat) : ((List.range k).any fun t => F t == s) = true ↔ ∃ t, t < k ∧ F t = s := by
  rw [List.any_eq_true]
  constructor
  · rintro ⟨t, ht, he⟩; exact ⟨t, List.mem_range.1 ht, by simpa using he⟩
  · rintro ⟨t, ht, he⟩; exact ⟨t, List.mem_range.2 ht, by simpa using he⟩
theorem outV_step (R : List (Nat × PT)) (F : Nat → Nat) (n i k : Nat) (hk : k < n) (hinj : ∀ a b, a < n → b < n → F a = F b → a = b) (s : Nat) :
    outV R F i (k + 1) s = if s = F k then (outV R F i k (F k) + vecP F (R.getD i d0).2 k) % 256 else outV R F i k s := by
  unfold outV vecP
  by_cases hs : s = F k
  · subst hs
    rw [if_pos rfl, if_pos ((any_iff F (k + 1) (F k)).2 ⟨k, by omega, rfl⟩), if_neg (fun h => by
      obtain ⟨t, ht, he⟩ := (any_iff F k (F k)).1 h
      have := hinj t k (by omega) hk he
      omega)]
    omega
  · rw [if_neg hs]
    congr 2
    have : (((List.range (k + 1)).any fun t => F t == s) = true) ↔ (((List.range k).any fun t => F t == s) = true) := by
      rw [any_iff, any_iff]
      constructor
      · rintro ⟨t, ht, he⟩
        by_cases htk : t = k
        · subst htk; exact absurd he.symm hs
        · exact ⟨t, by omega, he⟩
      · rintro ⟨t, ht, he⟩; exact ⟨t, by omega, he⟩
    by_cases h : ((List.range k).any fun t => F t == s) = true
    · rw [if_pos h, if_pos (this.2 h)]
    · rw [if_neg h, if_neg (fun h' => h (this.1 h'))]
theorem outV_done (l : List Int) (F : Nat → Nat) (n i j : Nat) (hF : (List.range n).map (fun k => (wt0 l (F k), F k)) = sortC l) (hi : i < (lev PT.node ((sortC l).map leafP) j).length) (s : Nat) :
    outV (lev PT.node ((sortC l).map leafP) j) F i n s = sumL (lev PT.node ((sortC l).map leafP) j) (i + 1) s % 256 := by
  rw [sumL_succ _ _ _ hi]
  unfold outV
  by_cases h : ((List.range n).any fun t => F t == s) = true
  · rw [if_pos h]
  · rw [if_neg h]
    have hz := (lev_occs l j (i + 1) (by omega) s).2 (fun p hp he => h ((any_iff F n s).2 (by
      rw [← hF] at hp
      obtain ⟨t, ht, rfl⟩ := List.mem_map.1 hp
      exact ⟨t, List.mem_range.1 ht, he.symm⟩)))
    have := sumL_succ (lev PT.node ((sortC l).map leafP) j) i s hi
    unfold sumL at this ⊢
    rw [hz] at this
    congr 1; omega
/-- No row of a thing is all noughts. -/
theorem vec_some (l : List Int) (F : Nat → Nat) (n j : Nat) (hj : j ≤ 14) (hF : (List.range n).map (fun k => (wt0 l (F k), F k)) = sortC l) (i : Nat) (hi : i < (lev PT.node ((sortC l).map leafP) j).length) :
    ∃ k, k < n ∧ vecP F ((lev PT.node ((sortC l).map leafP) j).getD i d0).2 k ≠ 0 := by
  obtain ⟨s, hs⟩ := occ_some ((lev PT.node ((sortC l).map leafP) j).getD i d0).2
  have hsum := sumL_succ (lev PT.node ((sortC l).map leafP) j) i s hi
  obtain ⟨h1, h2⟩ := lev_occs l j (i + 1) (by omega) s
  unfold sumL at hsum
  have hex : ∃ p ∈ sortC l, s = p.2 := by
    apply Classical.byContradiction
    intro hn
    have := h2 (fun p hp he => hn ⟨p, hp, he⟩)
    omega
  obtain ⟨p, hp, rfl⟩ := hex
  rw [← hF] at hp
  obtain ⟨k, hk, rfl⟩ := List.mem_map.1 hp
  refine ⟨k, List.mem_range.1 hk, ?_⟩
  unfold vecP
  simp only at hs hsum h1
  rw [Nat.mod_eq_of_lt (by omega)]
  omega
theorem nrow_ne {w : World} {g g' n m : Nat} {A : Nat → Nat} (h : Nrow w g 5 .u8 n A) (h' : Nrow w g' 5 .u8 m (fun _ => 0)) (hk : ∃ k, k < n ∧ A k ≠ 0) : g ≠ g' := by
  rintro rfl
  obtain ⟨k, hk, hA⟩ := hk
  have c := h.cell k hk
  by_cases hm : k < m
  · rw [h'.cell k hm] at c
    simp at c
    omega
  · rw [cell_of h'] at c
    simp at c
    omega
end Go.Proofs.Ytmajacfcfdljeaa
namespace Go.Proofs.Ytmajacfcfdljeaa
open Go.RowKit
set_option linter.unusedVariables false
set_option linter.unusedSimpArgs false

theorem sym_slice {w : World} {B n : Nat} {v : Value} {xs : List Value} (h : w.ownsRow B 3 1 v n xs) : ∃ g0 c0, v = .slice g0 n c0 := by
  rcases h.2 with ⟨rfl, rfl⟩ | ⟨g, cap, cur, rfl, _⟩
  · exact ⟨_, _, rfl⟩
  · exact ⟨_, _, rfl⟩
set_option maxRecDepth 2000000 in
set_option maxHeartbeats 12800000 in
theorem refLens_c (a : Option Addr) (c : Nat) (l : List Int) (limit : Int) (w : World) (hs : SlOf (Zn .i64) 1 w a l) (hl : l.length ≤ 320) (hgood : ¬ badC l) (hg0 : 1 ≤ limit) (hg1 : limit ≤ 15) (hneed : limit < (needN ((sortC l).length : Int) : Int)) :
    Calls Try.prog 10 #[.slice a l.length c, .int .i64 limit] w fun e w' => e = .returned (.tuple #[.slice none 0 0, .int .i64 2]) ∧ Fr [] w w' := by
  have hl1 : (l.length : Int) ≤ 320 := by omega
  have hok0 : ∀ x ∈ l, 0 ≤ x ∧ x ≤ 1073741824 := fun x hx => by
    unfold badC at hgood
    rcases Int.lt_or_le x 0 with h | h
    · exact absurd (.inr ⟨x, hx, .inl h⟩) hgood
    · rcases Int.lt_or_le 1073741824 x with h' | h'
      · exact absurd (.inr ⟨x, hx, .inr h'⟩) hgood
      · exact ⟨h, h'⟩
  have HX := Lib.hid (And.intro hs (And.intro hl hok0))
  have HSY := Lib.hid (symbols_any a c l w hs hl hok0)
  obtain ⟨n, hn⟩ : ∃ n, (sortC l).length = n := ⟨_, rfl⟩
  rw [hn] at HSY hneed
  have hn320 : n ≤ 320 := by have := leafL_len l 0; have := sortC_length l; omega
  have hni : (n : Int) ≤ 320 := by omega
  obtain ⟨nd, hnd⟩ : ∃ nd, needN (n : Int) = nd := ⟨_, rfl⟩
  rw [hnd] at hneed
  have HND := Lib.hid (fun W => refNeeds_any (n : Int) W (by omega) (by omega))
  rw [hnd] at HND
  have HN := Lib.hid (And.intro hn hnd)
  clear hs hgood hl hok0 hn hnd
  go_enter Try.func10, Try.ntmps10
  go_wp2_with fail
  go_loopw [6] (fun v6 wr => ∃ j : Nat, v6 = .int .i64 (j : Int) ∧ j ≤ l.length ∧ wr = w) (fun v6 _ => l.length - (intOf v6).toNat)
  case atStart => exact ⟨0, rfl, Nat.zero_le _, rfl⟩
  case round =>
    obtain ⟨j, rfl, hj, hw⟩ := hrel
    replace hw := hw.symm
    subst hw
    by_cases hjl : j < l.length
    · have hji : (j : Int) < (l.length : Int) := by omega
      obtain ⟨x, hx⟩ : ∃ x, l[j]? = some x := ⟨l[j], List.getElem?_eq_getElem hjl⟩
      obtain ⟨g1, o1, rfl, hb1, hc1⟩ := HX.out.1 (by intro h; rw [h] at hx; simp at hx)
      have c1 := hc1 j x hx 0 (.int .i64 x) rfl
      rw [Nat.mul_one, Nat.add_zero] at c1
      obtain ⟨h0i, h1i⟩ := HX.out.2.2 x (List.mem_of_getElem? hx)
      clear hc1 hx
      go_wp2_with fail
      exact ⟨⟨j + 1, by go_num, by omega, by first | rfl | trivial⟩, by simp [intOf]; omega⟩
    · have hjd : decide (j < l.length) = false := by simp; omega
      clear hj hjl
      go_wp2_with fail
      refine HSY.out.mono ?_
      rintro e w1 ⟨v, F, rfl, hown, hF, hbel⟩
      obtain ⟨g0, c0, rfl⟩ := sym_slice hown
      have HB := Lib.hid hbel
      clear hown hF hbel
      go_wp2_with fail
      refine (HND.out _).mono ?_
      rintro e w2 ⟨rfl, hw⟩
      replace hw := hw.symm
      subst hw
      go_wp2_with fail
      go_ret2
      exact ⟨rfl, Fr.of_below HB.out⟩
set_option maxRecDepth 2000000 in
set_option maxHeartbeats 12800000 in
theorem refLens_0 (a : Option Addr) (c : Nat) (l : List Int) (limit : Int) (w : World) (hs : SlOf (Zn .i64) 1 w a l) (hl : l.length ≤ 320) (hgood : ¬ badC l) (hg0 : 1 ≤ limit) (hg1 : limit ≤ 15) (hneed : (needN ((sortC l).length : Int) : Int) ≤ limit) (h0 : (sortC l).length = 0) :
    Calls Try.prog 10 #[.slice a l.length c, .int .i64 limit] w fun e w' => ∃ gl, e = .returned (.tuple #[.slice (some ⟨gl, 0, none⟩) l.length l.length, .int .i64 0]) ∧ Nrow w' gl 5 .u8 l.length (lenS l limit.toNat) ∧ Fr [] w w' := by
  have hl1 : (l.length : Int) ≤ 320 := by omega
  have hok0 : ∀ x ∈ l, 0 ≤ x ∧ x ≤ 1073741824 := fun x hx => by
    unfold badC at hgood
    rcases Int.lt_or_le x 0 with h | h
    · exact absurd (.inr ⟨x, hx, .inl h⟩) hgood
    · rcases Int.lt_or_le 1073741824 x with h' | h'
      · exact absurd (.inr ⟨x, hx, .inr h'⟩) hgood
      · exact ⟨h, h'⟩
  have HX := Lib.hid (And.intro hs (And.intro hl hok0))
  have HSY := Lib.hid (symbols_any a c l w hs hl hok0)
  obtain ⟨n, hn⟩ : ∃ n, (sortC l).length = n := ⟨_, rfl⟩
  rw [hn] at HSY hneed h0
  have hn320 : n ≤ 320 := by have := leafL_len l 0; have := sortC_length l; omega
  have hni : (n : Int) ≤ 320 := by omega
  obtain ⟨nd, hnd⟩ : ∃ nd, needN (n : Int) = nd := ⟨_, rfl⟩
  rw [hnd] at hneed
  have HND := Lib.hid (fun W => refNeeds_any (n : Int) W (by omega) (by omega))
  rw [hnd] at HND
  have HN := Lib.hid (And.intro hn hnd)
  have hE := Lib.hid (show ∀ s, lenS l limit.toNat s = 0 from fun s => by unfold lenS; rw [hn, if_pos (by omega), List.eq_nil_of_length_eq_zero (hn.trans h0)]; rfl)
  clear hs hgood hl hok0 hn hnd
  go_enter Try.func10, Try.ntmps10
  go_wp2_with fail
  go_loopw [6] (fun v6 wr => ∃ j : Nat, v6 = .int .i64 (j : Int) ∧ j ≤ l.length ∧ wr = w) (fun v6 _ => l.length - (intOf v6).toNat)
  case atStart => exact ⟨0, rfl, Nat.zero_le _, rfl⟩
  case round =>
    obtain ⟨j, rfl, hj, hw⟩ := hrel
    replace hw := hw.symm
    subst hw
    by_cases hjl : j < l.length
    · have hji : (j : Int) < (l.length : Int) := by omega
      obtain ⟨x, hx⟩ : ∃ x, l[j]? = some x := ⟨l[j], List.getElem?_eq_getElem hjl⟩
      obtain ⟨g1, o1, rfl, hb1, hc1⟩ := HX.out.1 (by intro h; rw [h] at hx; simp at hx)
      have c1 := hc1 j x hx 0 (.int .i64 x) rfl
      rw [Nat.mul_one, Nat.add_zero] at c1
      obtain ⟨h0i, h1i⟩ := HX.out.2.2 x (List.mem_of_getElem? hx)
      clear hc1 hx
      go_wp2_with fail
      exact ⟨⟨j + 1, by go_num, by omega, by first | rfl | trivial⟩, by simp [intOf]; omega⟩
    · have hjd : decide (j < l.length) = false := by simp; omega
      clear hj hjl
      go_wp2_with fail
      refine HSY.out.mono ?_
      rintro e w1 ⟨v, F, rfl, hown, hF, hbel⟩
      subst h0
      obtain ⟨g0, c0, rfl⟩ := sym_slice hown
      have HB := Lib.hid hbel
      have hmk := run_make_bytes w1 l.length (by have := HX.out.2.1; omega)
      clear hown hF hbel
      go_wp2_with fail
      refine (HND.out _).mono ?_
      rintro e w2 ⟨rfl, hw⟩
      replace hw := hw.symm
      subst hw
      go_wp2_with fail
      go_ret2
      exact ⟨w1.heap.size, rfl, (made_row w1 l.length).congr fun s _ => hE.out s, (Fr.of_below HB.out).trans (Fr.alloc [] _ _)⟩
set_option maxRecDepth 2000000 in
set_option maxHeartbeats 12800000 in
theorem refLens_1 (a : Option Addr) (c : Nat) (l : List Int) (limit : Int) (w : World) (hs : SlOf (Zn .i64) 1 w a l) (hl : l.length ≤ 320) (hgood : ¬ badC l) (hg0 : 1 ≤ limit) (hg1 : limit ≤ 15) (hneed : (needN ((sortC l).length : Int) : Int) ≤ limit) (h0 : (sortC l).length = 1) :
    Calls Try.prog 10 #[.slice a l.length c, .int .i64 limit] w fun e w' => ∃ gl, e = .returned (.tuple #[.slice (some ⟨gl, 0, none⟩) l.length l.length, .int .i64 0]) ∧ Nrow w' gl 5 .u8 l.length (lenS l limit.toNat) ∧ Fr [] w w' := by
  have hl1 : (l.length : Int) ≤ 320 := by omega
  have hok0 : ∀ x ∈ l, 0 ≤ x ∧ x ≤ 1073741824 := fun x hx => by
    unfold badC at hgood
    rcases Int.lt_or_le x 0 with h | h
    · exact absurd (.inr ⟨x, hx, .inl h⟩) hgood
    · rcases Int.lt_or_le 1073741824 x with h' | h'
      · exact absurd (.inr ⟨x, hx, .inr h'⟩) hgood
      · exact ⟨h, h'⟩
  have HX := Lib.hid (And.intro hs (And.intro hl hok0))
  have HSY := Lib.hid (symbols_any a c l w hs hl hok0)
  obtain ⟨n, hn⟩ : ∃ n, (sortC l).length = n := ⟨_, rfl⟩
  rw [hn] at HSY hneed h0
  have hn320 : n ≤ 320 := by have := leafL_len l 0; have := sortC_length l; omega
  have hni : (n : Int) ≤ 320 := by omega
  obtain ⟨nd, hnd⟩ : ∃ nd, needN (n : Int) = nd := ⟨_, rfl⟩
  rw [hnd] at hneed
  have HND := Lib.hid (fun W => refNeeds_any (n : Int) W (by omega) (by omega))
  rw [hnd] at HND
  have HN := Lib.hid (And.intro hn hnd)
  clear hs hgood hl hok0 hn hnd
  go_enter Try.func10, Try.ntmps10
  go_wp2_with fail
  go_loopw [6] (fun v6 wr => ∃ j : Nat, v6 = .int .i64 (j : Int) ∧ j ≤ l.length ∧ wr = w) (fun v6 _ => l.length - (intOf v6).toNat)
  case atStart => exact ⟨0, rfl, Nat.zero_le _, rfl⟩
  case round =>
    obtain ⟨j, rfl, hj, hw⟩ := hrel
    replace hw := hw.symm
    subst hw
    by_cases hjl : j < l.length
    · have hji : (j : Int) < (l.length : Int) := by omega
      obtain ⟨x, hx⟩ : ∃ x, l[j]? = some x := ⟨l[j], List.getElem?_eq_getElem hjl⟩
      obtain ⟨g1, o1, rfl, hb1, hc1⟩ := HX.out.1 (by intro h; rw [h] at hx; simp at hx)
      have c1 := hc1 j x hx 0 (.int .i64 x) rfl
      rw [Nat.mul_one, Nat.add_zero] at c1
      obtain ⟨h0i, h1i⟩ := HX.out.2.2 x (List.mem_of_getElem? hx)
      clear hc1 hx
      go_wp2_with fail
      exact ⟨⟨j + 1, by go_num, by omega, by first | rfl | trivial⟩, by simp [intOf]; omega⟩
    · have hjd : decide (j < l.length) = false := by simp; omega
      clear hj hjl
      go_wp2_with fail
      refine HSY.out.mono ?_
      rintro e w1 ⟨v, F, rfl, hown, hF, hbel⟩
      subst h0
      have HB := Lib.hid hbel
      rcases hown.2 with ⟨_, h⟩ | ⟨gs, cs, cur, rfl, _⟩
      · omega
      have hmk := run_make_bytes w1 l.length (by have := HX.out.2.1; omega)
      obtain ⟨cc, hcc, hc0, _⟩ := refS_is hF (k := 0) (by omega)
      have hfl := (List.getElem?_eq_some_iff.1 hcc).1
      have q0 := own_cell hown 0 (by omega)
      obtain ⟨u, hu⟩ : ∃ u, F 0 = u := ⟨_, rfl⟩
      rw [hu] at q0 hfl
      have hui : (u : Int) < (l.length : Int) := by omega
      have hgs := (hown.lt gs rfl).2
      have hM := made_row w1 l.length
      have d0 := hM.cell u hfl
      have fz := free_of hM u
      have hlens : ∀ s, lenS l limit.toNat s = if s = u then 1 else 0 := fun s => by
        unfold lenS
        have hS : sortC l = [(wt0 l (F 0), F 0)] := by rw [← hF]; rfl
        rw [hS, if_pos (by simp)]
        simp [tot, hu]
      have HE := Lib.hid hlens
      clear hown hF hbel hM hcc hfl hu hlens
      go_wp2_with fail
      refine (HND.out _).mono ?_
      rintro e w2 ⟨rfl, hw⟩
      replace hw := hw.symm
      subst hw
      go_wp2_with fail
      go_ret2
      exact ⟨w1.heap.size, rfl, (made_one w1 l.length u).congr fun s _ => HE.out s, (Fr.of_below HB.out).trans (Fr.alloc [] _ _)⟩
end Go.Proofs.Ytmajacfcfdljeaa
namespace Go.Proofs.Ytmajacfcfdljeaa
open Go.RowKit
set_option linter.unusedVariables false
set_option linter.unusedSimpArgs false

theorem Vrow.base {w : World} {B B' : Nat} {v : Value} {n : Nat} {sy : Nat → Nat} {R : List (Nat × PT)} (h : Vrow w B v n sy R) (hB : B' ≤ B) : Vrow w B' v n sy R := by
  obtain ⟨G, h1, h2⟩ := h
  refine ⟨G, ⟨h1.1, ?_⟩, h2⟩
  rcases h1.2 with h | ⟨g, cap, cur, a1, a2, a3⟩
  · exact .inl h
  · exact .inr ⟨g, cap, cur, a1, by omega, a3⟩
theorem Vrow.form {w : World} {B : Nat} {v : Value} {n : Nat} {sy : Nat → Nat} {R : List (Nat × PT)} (h : Vrow w B v n sy R) (h0 : 0 < R.length) : ∃ g c, v = .slice (some ⟨g, 0, none⟩) R.length c := by
  obtain ⟨G, h1, _⟩ := h
  rcases h1.2 with ⟨_, h⟩ | ⟨g, cap, cur, rfl, _⟩
  · omega
  · exact ⟨g, cap, rfl⟩
/-- What holds at the head of a round of the loop that makes the leaves. -/
def LeavesR (w3 : World) (n : Nat) (F : Nat → Nat) (LL : List (Nat × PT)) (v10 v11 : Value) (wr : World) : Prop :=
  ∃ (i : Nat) (u10 : Value), u10 = v10 ∧ v11 = .int .i64 (i : Int) ∧ i ≤ n ∧ Vrow wr w3.heap.size v10 n F (LL.take i) ∧ Below w3.heap.size w3 wr
/-- What holds at the head of a round of the loop over the levels. -/
def LevelsR (w3 : World) (n m gl cl : Nat) (F : Nat → Nat) (LL : List (Nat × PT)) (v12 v13 : Value) (wr : World) : Prop :=
  ∃ (j gr cr : Nat), v12 = .slice (some ⟨gr, 0, none⟩) (lev PT.node LL j).length cr ∧ v13 = .int .i64 ((j + 2 : Nat) : Int) ∧ j + 1 ≤ m ∧ Vrow wr w3.heap.size (.slice (some ⟨gr, 0, none⟩) (lev PT.node LL j).length cr) n F (lev PT.node LL j) ∧ Vrow wr w3.heap.size (.slice (some ⟨gl, 0, none⟩) LL.length cl) n F LL ∧ Fr [] w3 wr
set_option maxRecDepth 2000000 in
set_option maxHeartbeats 12800000 in
theorem refLens_n (a : Option Addr) (c : Nat) (l : List Int) (limit : Int) (w : World) (hs : SlOf (Zn .i64) 1 w a l) (hl : l.length ≤ 320) (hgood : ¬ badC l) (hg0 : 1 ≤ limit) (hg1 : limit ≤ 15) (hneed : (needN ((sortC l).length : Int) : Int) ≤ limit) (h0 : 2 ≤ (sortC l).length) :
    Calls Try.prog 10 #[.slice a l.length c, .int .i64 limit] w fun e w' => ∃ gl, e = .returned (.tuple #[.slice (some ⟨gl, 0, none⟩) l.length l.length, .int .i64 0]) ∧ Nrow w' gl 5 .u8 l.length (lenS l limit.toNat) ∧ Fr [] w w' := by
  have hl1 : (l.length : Int) ≤ 320 := by omega
  have hok0 : ∀ x ∈ l, 0 ≤ x ∧ x ≤ 1073741824 := fun x hx => by
    unfold badC at hgood
    rcases Int.lt_or_le x 0 with h | h
    · exact absurd (.inr ⟨x, hx, .inl h⟩) hgood
    · rcases Int.lt_or_le 1073741824 x with h' | h'
      · exact absurd (.inr ⟨x, hx, .inr h'⟩) hgood
      · exact ⟨h, h'⟩
  have HX := Lib.hid (And.intro hs (And.intro hl hok0))
  have HSY := Lib.hid (symbols_any a c l w hs hl hok0)
  obtain ⟨n, hn⟩ : ∃ n, (sortC l).length = n := ⟨_, rfl⟩
  rw [hn] at HSY hneed h0
  have hn320 : n ≤ 320 := by have := leafL_len l 0; have := sortC_length l; omega
  have hni : (n : Int) ≤ 320 := by omega
  obtain ⟨nd, hnd⟩ : ∃ nd, needN (n : Int) = nd := ⟨_, rfl⟩
  rw [hnd] at hneed
  have HND := Lib.hid (fun W => refNeeds_any (n : Int) W (by omega) (by omega))
  rw [hnd] at HND
  have HN := Lib.hid (And.intro hn hnd)
  have hdl1 : decide (limit < 1) = false := by simp; omega
  have hdl2 : decide (15 < limit) = false := by simp; omega
  have hdl3 : decide (limit < (nd : Int)) = false := by simp; omega
  clear hs hgood hl hok0 hn hnd
  go_enter Try.func10, Try.ntmps10
  go_wp2_with fail
  go_loopw [6] (fun v6 wr => ∃ j : Nat, v6 = .int .i64 (j : Int) ∧ j ≤ l.length ∧ wr = w) (fun v6 _ => l.length - (intOf v6).toNat)
  case atStart => exact ⟨0, rfl, Nat.zero_le _, rfl⟩
  case round =>
    obtain ⟨j, rfl, hj, hw⟩ := hrel
    replace hw := hw.symm
    subst hw
    by_cases hjl : j < l.length
    · have hji : (j : Int) < (l.length : Int) := by omega
      obtain ⟨x, hx⟩ : ∃ x, l[j]? = some x := ⟨l[j], List.getElem?_eq_getElem hjl⟩
      obtain ⟨g1, o1, rfl, hb1, hc1⟩ := HX.out.1 (by intro h; rw [h] at hx; simp at hx)
      have c1 := hc1 j x hx 0 (.int .i64 x) rfl
      rw [Nat.mul_one, Nat.add_zero] at c1
      obtain ⟨h0i, h1i⟩ := HX.out.2.2 x (List.mem_of_getElem? hx)
      clear hc1 hx
      go_wp2_with fail
      exact ⟨⟨j + 1, by go_num, by omega, by first | rfl | trivial⟩, by simp [intOf]; omega⟩
    · have hjd : decide (j < l.length) = false := by simp; omega
      clear hj hjl
      go_wp2_with fail
      refine HSY.out.mono ?_
      rintro e w1 ⟨v, F, rfl, hown, hF, hbel⟩
      have HB := Lib.hid hbel
      rcases hown.2 with ⟨_, h⟩ | ⟨gs, cs, cur, rfl, _⟩
      · omega
      have hmk := run_make_bytes w1 l.length (by have := HX.out.2.1; omega)
      have hn2 : 2 ≤ (n : Int) := by omega
      have hd1 : ((n : Int) == 1) = false := by rw [beq_eq_false_iff_ne]; omega
      have hd2 : decide ((n : Int) < 2) = false := by simp; omega
      have HS := Lib.hid (And.intro hown hF)
      obtain ⟨LL, hLL⟩ : ∃ LL, LL = (sortC l).map leafP := ⟨_, rfl⟩
      have HLL := Lib.hid hLL
      clear hown hF hbel hLL
      go_wp2_with fail
      refine (HND.out _).mono ?_
      rintro e w2 ⟨rfl, hw⟩
      replace hw := hw.symm
      subst hw
      go_wp2_with fail
      obtain ⟨w3, hw3⟩ : ∃ w3, w1.alloc (.cells (Lib.byteCells (List.replicate l.length 0)).toArray 5) = w3 := ⟨_, rfl⟩
      have hf3 : Fr [] w1 w3 := by rw [← hw3]; exact Fr.alloc [] _ _
      have hM3 : Nrow w3 w1.heap.size 5 .u8 l.length (fun _ => 0) := by rw [← hw3]; exact made_row w1 l.length
      rw [hw3]
      have H3 := Lib.hid (And.intro hf3 hM3)
      clear hf3 hM3 hw3 hmk
      go_loopw [10, 11] (fun v10 v11 wr => LeavesR w3 n F LL v10 v11 wr) (fun _ v11 _ => n - (intOf v11).toNat)
      case atStart => exact ⟨0, _, rfl, rfl, Nat.zero_le _, by simpa using Vrow.nil _ _ _ _, Below.refl _ _⟩
      case round =>
        obtain ⟨i, u10, rfl, rfl, hi, hV, hbel⟩ := hrel
        by_cases hin : i < n
        · have hii : (i : Int) < (n : Int) := by omega
          obtain ⟨cc, hcc, hc0, hcw⟩ := refS_is HS.out.2 hin
          obtain ⟨cn, rfl⟩ := Int.eq_ofNat_of_zero_le (show 0 ≤ cc by omega)
          have hfl := (List.getElem?_eq_some_iff.1 hcc).1
          have q0 := own_cell HS.out.1 i hin
          have hgs := (HS.out.1.lt gs rfl).2
          obtain ⟨u, hu⟩ : ∃ u, F i = u := ⟨_, rfl⟩
          rw [hu] at q0 hfl hcc
          have hui : (u : Int) < (l.length : Int) := by omega
          have hbw3 : Below w1.heap.size w1 wr := ((H3.out.1).trans (Fr.of_below hbel)).below
          have q1 : wr.cell? ⟨gs, i, none⟩ = some (.int .i64 (u : Int)) := by rw [hbw3.cell (p := ⟨gs, i, none⟩) hgs]; exact q0
          obtain ⟨g1, o1, rfl, hb1, hc1⟩ := HX.out.1 (by intro h; rw [h] at hcc; simp at hcc)
          have c1 := hc1 u cn hcc 0 (.int .i64 (cn : Int)) rfl
          rw [Nat.mul_one, Nat.add_zero] at c1
          have hbw : Below w.heap.size w wr := ((Fr.of_below (l := []) HB.out).trans (Fr.of_below hbw3)).below
          have q2 : wr.cell? ⟨g1, o1 + u, none⟩ = some (.int .i64 (cn : Int)) := by rw [hbw.cell (p := ⟨g1, o1 + u, none⟩) hb1]; exact c1
          have hgsr : gs < wr.heap.size := by have := hbw3.size; omega
          have hg1r : g1 < wr.heap.size := by have := hbw.size; omega
          have hcb := (HX.out.2.2 _ (List.mem_of_getElem? hcc)).2
          have hcb2 : (cn : Int) ≤ 1073741824 := hcb
          have HLF := Lib.hid (leaf_any cn i n wr (by omega) hin (by omega))
          unfold rv at HLF
          obtain ⟨G, hG1, hG2⟩ := hV
          have hLll : (LL.take i).length = i := by rw [HLL.out, List.length_take, List.length_map, HN.out.1]; omega
          unfold rowCells at hG1
          rw [hLll] at hG1 hG2
          have hLx : LL[i]? = some (cn, .leaf (F i)) := by rw [HLL.out, List.getElem?_map, refS_get HS.out.2 hin, hcw]; simp [leafP]
          have HV := Lib.hid (And.intro hG1 (And.intro hG2 (And.intro hLll (And.intro hLx hbel))))
          have hsz := hbel.size
          clear hG1 hG2 hLll hLx hbel hcc hfl q0 c1 hc1 hu hbw3 hbw hcw hcb
          go_wp2_with fail
          refine HLF.out.mono ?_
          rintro e w5 ⟨g5, rfl, hge5, hN5, f5⟩
          have H5 := Lib.hid (And.intro hN5 f5)
          have HO5 := Lib.hid (ownsRow_to HV.out.1 f5 (by simp))
          have HB5 := Lib.hid (f5.out HV.out.2.2.2.2 (by simp))
          have hsz5 : w3.heap.size ≤ w5.heap.size := Nat.le_trans hsz f5.size
          clear hge5 hN5 f5
          go_wp2_with (first | (at_builtin; go_must (refine wpList_push w3.heap.size w3 w5 rfl (.tmp 71) (.tmp 82) 54 rfl 56 2 32 elemV u10 i _ rfl HO5 HB5 hsz5 #[.int .i64 (cn : Int), .slice (some ⟨g5, 0, none⟩) n n] 1 1 rfl rfl rfl (by omega) (by omega) (by omega) ?_); intro g6 c6 w6 HQ))
          go_roundw
          case rel =>
            obtain ⟨hG1, hG2, hLll, hLx, hbel⟩ := HV.out
            have fA := (H5.out.2).trans (Fr.alloc [] w5 (.cells #[.int .i64 (cn : Int), .slice (some ⟨g5, 0, none⟩) n n] 56))
            have hownA := ownsRow_to hG1 fA (by simp)
            refine ⟨i + 1, _, rfl, by go_num, by omega, ?_, HQ.out.below⟩
            rw [List.take_add_one, hLx, Option.toList_some]
            refine Vrow.snoc (g := g5) (G := G) ?_ (fun k hk => ?_) ?_
            · rw [hLll]
              have := HQ.out.own
              unfold rowCells
              rw [hLll]
              exact this
            · rw [hLll] at hk
              exact vecs_grown hownA HQ.out.grown ((hG2 k hk).to fA (by simp))
            · refine (vecs_grown hownA HQ.out.grown ((H5.out.1).to (Fr.alloc [] w5 _) (by simp))).congr fun k hk => ?_
              unfold vecP
              simp only [occ]
              by_cases e : k = i
              · subst e; simp
              · rw [if_neg e, if_neg (fun h => e (refS_inj HS.out.2 hk hin h))]
          case measure => simp [intOf]; omega
        · have hie : i = n := by omega
          have hid : decide (i < n) = false := by simp; omega
          have hLl : LL.length = n := by rw [HLL.out, List.length_map, HN.out.1]
          rw [hie, List.take_of_length_le (by omega)] at hV
          obtain ⟨gl, cl, hv⟩ := hV.form (by omega)
          rw [hLl] at hv
          subst hv
          have HV := Lib.hid (And.intro hV (And.intro hbel hLl))
          clear hV hbel hLl hie hi hin
          obtain ⟨m, rfl⟩ := Int.eq_ofNat_of_zero_le (show 0 ≤ limit by omega)
          go_wp2_with fail
          go_loopw [12, 13] (fun v12 v13 wr => LevelsR w3 n m gl cl F LL v12 v13 wr) (fun _ v13 _ => m + 1 - (intOf v13).toNat)
          case atStart =>
            obtain ⟨h1, h2, h3⟩ := HV.out
            exact ⟨0, gl, cl, by rw [lev, h3], rfl, by omega, by rw [lev, h3]; exact h1, by rw [h3]; exact h1, Fr.of_below h2⟩
          case round =>
            obtain ⟨j, gr, cr, rfl, rfl, hj, hVR, hVL, hf⟩ := hrel
            obtain ⟨k, hk⟩ : ∃ k, j + 2 = k := ⟨_, rfl⟩
            rw [hk]
            obtain ⟨R, hR⟩ : ∃ R, lev PT.node LL j = R := ⟨_, rfl⟩
            have hRl : n ≤ R.length ∧ R.length ≤ 2 * n := by
              rw [← hR]
              have hLl := HV.out.2.2
              refine ⟨?_, by have := lev_le PT.node LL j; omega⟩
              cases j with
              | zero => rw [lev]; omega
              | succ j => rw [lev_length]; omega
            have hLw : ∀ x ∈ LL, x.1 ≤ 1073741824 := fun x hx => by
              rw [HLL.out] at hx
              obtain ⟨p, hp, rfl⟩ := List.mem_map.1 hx
              obtain ⟨c', hc', _, h3⟩ := (sortC_mem l p).1 hp
              have := (HX.out.2.2 c' (List.mem_of_getElem? hc')).2
              simp only [leafP]; omega
            have hRw := lev_w hLw j
            rw [hR] at hVR hRw ⊢
            have hm15 : m ≤ 15 := by omega
            have hjk : j ≤ 14 := by omega
            have hpow : 2 ^ (30 + j) ≤ 2 ^ 44 := Nat.pow_le_pow_right (by decide) (by omega)
            by_cases hkm : k ≤ m
            · have hkmi : (k : Int) ≤ (m : Int) := by omega
              have HNX := Lib.hid (next_any n gl cl gr cr F LL R wr w3.heap.size w3.heap.size hVL hVR (by omega) (by omega) (by omega) (by have := HV.out.2.2; omega) (fun x hx => by have := hRw x hx; omega) (fun x hx => by have := hLw x hx; omega))
              rw [HV.out.2.2] at HNX
              have HJ := Lib.hid (And.intro hk (And.intro hR (And.intro hVL (And.intro hf hRl))))
              obtain ⟨rl, hrl⟩ : ∃ rl, R.length = rl := ⟨_, rfl⟩
              rw [hrl] at HNX ⊢
              clear hRl hLw hRw hVR hVL hf hk hR hpow hj hrl
              go_wp2_with fail
              refine HNX.out.mono ?_
              rintro e w5 ⟨v, rfl, hV5, hb5⟩
              have hlev : lev PT.node LL (j + 1) = mrg LL (prs PT.node R) := by rw [lev, HJ.out.2.1]
              have hll : 0 < (lev PT.node LL (j + 1)).length := by rw [lev_length, HV.out.2.2]; omega
              rw [← hlev] at hV5
              obtain ⟨g5, c5, rfl⟩ := hV5.form hll
              have H5 := Lib.hid (And.intro hV5 hb5)
              clear hV5 hb5 hlev hll
              go_wp2_with fail
              go_roundw
              case rel =>
                obtain ⟨hk, hR, hVL, hf, hRl⟩ := HJ.out
                exact ⟨j + 1, g5, c5, rfl, by rw [← hk]; go_num, by omega, (H5.out.1).base hf.size, hVL.to (Fr.of_below H5.out.2), hf.trans (Fr.of_below H5.out.2)⟩
              case measure => simp [intOf]; omega
            · have hkd : decide (k ≤ m) = false := by simp; omega
              have hjm : j + 1 = m := by omega
              obtain ⟨n2, hn2e⟩ : ∃ n2, 2 * n = n2 := ⟨_, rfl⟩
              obtain ⟨K, hKe⟩ : ∃ K, n2 - 2 = K := ⟨_, rfl⟩
              have e1 : (2 : Int) * (n : Int) = (n2 : Int) := by omega
              have e2 : (n2 : Int) - 2 = (K : Int) := by omega
              have hn2b : (n2 : Int) ≤ 640 := by omega
              have hn2c : 4 ≤ (n2 : Int) := by omega
              have hKb : (K : Int) ≤ 640 := by omega
              rw [HLL.out] at hR
              have hroom : K ≤ R.length := by
                rw [← hR]
                have h4 := lev_room PT.node ((sortC l).map leafP) j 2 (by
                  have := need_room (n := n) (k := m) (by rw [HN.out.2]; omega)
                  rw [List.length_map, HN.out.1, ← hjm, Nat.pow_succ] at *
                  omega)
                rw [List.length_map, HN.out.1] at h4
                omega
              obtain ⟨GR, hGR1, hGR2⟩ := hVR
              obtain ⟨rl, hrl⟩ : ∃ rl, R.length = rl := ⟨_, rfl⟩
              have hgr := hGR1.lt gr rfl
              have hout := (H3.out.2).to hf (by simp)
              have hgo3 : w3.heap.size = w1.heap.size + 1 ∨ w1.heap.size < w3.heap.size := .inr (lt_of H3.out.2)
              have hgor : gr ≠ w1.heap.size := by have := hgr.1; have := lt_of H3.out.2; omega
              have hGne : ∀ t, t < R.length → GR t ≠ w1.heap.size := fun t ht => nrow_ne (hGR2 t ht) hout (by
                have := vec_some l F n j hjk HS.out.2 t (by rw [hR]; exact ht)
                rwa [hR] at this)
              rw [hrl] at hroom
              have hroomi : (K : Int) ≤ (rl : Int) := by omega
              have hrlb : (rl : Int) ≤ 640 := by omega
              have HJ := Lib.hid (And.intro hR (And.intro hGR1 (And.intro hGR2 (And.intro hGne (And.intro hout (And.intro hf (And.intro hrl (And.intro hn2e (And.intro hKe (And.intro hjm (And.intro hroom (And.intro hgr.2 hgor))))))))))))
              rw [hrl]
              have hgs1 := (HS.out.1.lt gs rfl).2
              have hgs3 : gs < w3.heap.size := by have := lt_of H3.out.2; omega
              clear hRl hLw hRw hVL hf hk hR hpow hj hjm hkm hGR1 hGR2 hGne hout hgor hgo3 hrl hn2e hKe hroom hgr
              obtain ⟨wo, hwo⟩ : ∃ wo, wo = wr := ⟨wr, rfl⟩
              subst hwo
              go_wp2_with fail
              go_loopw [14, 15] (fun v14 _ wr => ∃ i : Nat, v14 = .int .i64 (i : Int) ∧ i ≤ K ∧ Hid (Nrow wr w1.heap.size 5 .u8 l.length (fun s => sumL R i s % 256)) ∧ Fr [w1.heap.size] wo wr) (fun v14 _ _ => K - (intOf v14).toNat)
              case atStart => exact ⟨0, rfl, Nat.zero_le _, Lib.hid (HJ.out.2.2.2.2.1.congr fun s _ => by simp [sumL, tot]), Fr.refl _ _⟩
              case round =>
                obtain ⟨i', rfl, hi', hN, hf⟩ := hrel
                by_cases hiK : i' < K
                · have hiKi : (i' : Int) < (K : Int) := by omega
                  have hirl : (i' : Int) < (rl : Int) := by omega
                  have HO := Lib.hid (And.intro hN.out hf)
                  clear hN hf
                  go_wp2_with fail
                  go_loopw [15] (fun v15 wr => ∃ t : Nat, v15 = .int .i64 (t : Int) ∧ t ≤ n ∧ Hid (Nrow wr w1.heap.size 5 .u8 l.length (outV R F i' t)) ∧ Fr [w1.heap.size] wo wr) (fun v15 _ => n - (intOf v15).toNat)
                  case atStart => exact ⟨0, rfl, Nat.zero_le _, Lib.hid (HO.out.1.congr fun s _ => outV_zero R F i' s), HO.out.2⟩
                  case round =>
                    clear HO
                    obtain ⟨t, rfl, ht, hN, hf⟩ := hrel
                    by_cases htn : t < n
                    · have hti : (t : Int) < (n : Int) := by omega
                      obtain ⟨cc, hcc, hc0, _⟩ := refS_is HS.out.2 htn
                      have hfl := (List.getElem?_eq_some_iff.1 hcc).1
                      have q0 := own_cell HS.out.1 t htn
                      obtain ⟨u, hu⟩ : ∃ u, F t = u := ⟨_, rfl⟩
                      rw [hu] at q0 hfl
                      have hui : (u : Int) < (l.length : Int) := by omega
                      obtain ⟨hR, hGR1, hGR2, hGne, hout, hfo, hrl, hn2e, hKe, hjm, hroom, hgr2, hgor⟩ := HJ.out
                      have hlt1 : w1.heap.size < wo.heap.size := lt_of hout
                      have s0 : wr.cell? ⟨gs, t, none⟩ = some (.int .i64 (u : Int)) := by
                        have e1 : wo.cell? ⟨gs, t, none⟩ = w1.cell? ⟨gs, t, none⟩ := ((H3.out.1).trans hfo).below.cell (p := ⟨gs, t, none⟩) hgs1
                        rw [World.cell?_of_block (a := ⟨gs, t, none⟩) (hf.block gs (by omega) (by simp; omega)), e1]; exact q0
                      obtain ⟨r0, r1⟩ := vrow_cell hGR1 i' (by omega)
                      have r1' : wr.cell? ⟨gr, i' * 2 + 1, none⟩ = some (.slice (some ⟨GR i', 0, none⟩) n n) := by
                        rw [World.cell?_of_block (a := ⟨gr, i' * 2 + 1, none⟩) (hf.block gr hgr2 (by simpa using hgor))]; exact r1
                      have vv := ((hGR2 i' (by omega)).to hf (by simpa using hGne i' (by omega))).cell t htn
                      have hgv := lt_of ((hGR2 i' (by omega)).to hf (by simpa using hGne i' (by omega)))
                      obtain ⟨gv, hgv'⟩ : ∃ gv, GR i' = gv := ⟨_, rfl⟩
                      rw [hgv'] at r1' vv hgv
                      have o0 := hN.out.cell u hfl
                      have fz := free_of hN.out u
                      obtain ⟨x, hx⟩ : ∃ x, outV R F i' t u = x := ⟨_, rfl⟩
                      obtain ⟨y, hy⟩ : ∃ y, vecP F (R.getD i' d0).2 t = y := ⟨_, rfl⟩
                      obtain ⟨z, hz⟩ : ∃ z, (x + y) % 256 = z := ⟨_, rfl⟩
                      rw [hx] at o0
                      rw [hy] at vv
                      have hxb : (x : Int) ≤ 255 := by have : outV R F i' t u < 256 := Nat.mod_lt _ (by decide); omega
                      have hyb : (y : Int) ≤ 255 := by have := vecP_le F (R.getD i' d0).2 t; omega
                      have ez : ((x : Int) + (y : Int)) % 256 = (z : Int) := by omega
                      have hset := hN.out.set_ (G := outV R F i' (t + 1)) u z (fun s _ => by
                        rw [outV_step R F n i' t htn (fun a b ha hb he => refS_inj HS.out.2 ha hb he) s, hu, hx, hy, hz])
                      have hgsr : gs < wr.heap.size := by have := hf.size; omega
                      have hgrr : gr < wr.heap.size := by have := hf.size; omega
                      have hgolt : w1.heap.size < wr.heap.size := lt_of hN.out
                      have HT := Lib.hid (And.intro hset hf)
                      clear hset hf hN hx hy hz hcc hc0 hfl q0 hu r0 r1 hgv' hR hGR1 hGR2 hGne hout hfo hrl hn2e hKe hjm hroom hgr2 hgor hlt1
                      go_wp2_with fail
                      refine wp_region_quiet_tail 22 (by kernel_rfl) (by kernel_rfl) ?_
                      simp only [List.take_succ_cons, List.take_zero, List.drop_succ_cons, List.drop_zero]
                      repeat go_big_quiet_step (fail)
                      refine wpQuiet_nil ?_
                      go_wp2_with fail
                      exact ⟨⟨t + 1, by go_num, by omega, Lib.hid ((HT.out.1).to (l := []) (Fr.drew (Fr.refl [] _)) (by simp)), HT.out.2.trans (Fr.drew (Fr.setCell _ _ _ _))⟩, by simp [intOf]; omega⟩
                    · have htd : decide (t < n) = false := by simp; omega
                      have hte : t = n := by omega
                      have HT := Lib.hid (And.intro hN.out (And.intro hf hte))
                      clear hN hf hte ht htn
                      go_wp2_with fail
                      go_roundw
                      case rel =>
                        obtain ⟨h1, h2, h3⟩ := HT.out
                        refine ⟨i' + 1, by go_num, by omega, Lib.hid (h1.congr fun s _ => ?_), h2⟩
                        have := outV_done l F n i' j HS.out.2 (by rw [HJ.out.1]; have := HJ.out.2.2.2.2.2.2.1; omega) s
                        rw [HJ.out.1] at this
                        rw [h3]; exact this.symm
                      case measure => simp [intOf]; omega
                · have hid2 : decide (i' < K) = false := by simp; omega
                  have hie2 : i' = K := by omega
                  have HT := Lib.hid (And.intro hN.out (And.intro hf hie2))
                  clear hN hf hie2 hi' hiK
                  go_wp2_with fail
                  go_ret2
                  obtain ⟨h1, h2, h3⟩ := HT.out
                  obtain ⟨hR, hGR1, hGR2, hGne, hout, hfo, hrl, hn2e, hKe, hjm, hroom, hgr2, hgor⟩ := HJ.out
                  have hfw : Fr [] w wo := (Fr.of_below HB.out).trans ((H3.out.1).trans hfo)
                  refine ⟨w1.heap.size, rfl, h1.congr fun s _ => ?_, h2.outL hfw (fun b hb => .inr (by simp at hb; rw [hb]; exact HB.out.size))⟩
                  have hlt := lens_fits l m (by omega) (by rw [HN.out.1]; exact need_room (by rw [HN.out.2]; omega)) s
                  rw [show ((m : Nat) : Int).toNat = m from Int.toNat_natCast m]
                  have hEq : lenS l m s = sumL R i' s := by
                    unfold lenS lensN lenOf
                    rw [HN.out.1, if_neg (by omega), List.length_map, HN.out.1, show m - 1 = j by omega, hR, h3, ← hKe, ← hn2e]
                    rfl
                  rw [hEq] at hlt ⊢
                  rw [Nat.mod_eq_of_lt (by omega)]
end Go.Proofs.Ytmajacfcfdljeaa
namespace Go.Proofs.Ytmajacfcfdljeaa
open Go.RowKit
set_option linter.unusedVariables false
set_option linter.unusedSimpArgs false

/-- The document's Lens. -/
theorem refLens_any (a : Option Addr) (c : Nat) (l : List Int) (limit : Int) (w : World) (hs : SlOf (Zn .i64) 1 w a l) (hl : l.length ≤ 9223372036854775807) (hg0 : -9223372036854775808 ≤ limit) (hg1 : limit ≤ 9223372036854775807) :
    Calls Try.prog 10 #[.slice a l.length c, .int .i64 limit] w fun e w' => Fr [] w w' ∧ (badP l limit ∧ e = .returned (.tuple #[.slice none 0 0, .int .i64 2]) ∨ ¬ badP l limit ∧ ∃ gl, e = .returned (.tuple #[.slice (some ⟨gl, 0, none⟩) l.length l.length, .int .i64 0]) ∧ Nrow w' gl 5 .u8 l.length (lenS l limit.toNat)) := by
  by_cases h1 : 320 < l.length ∨ limit < 1 ∨ 15 < limit
  · have hb : badP l limit := by
      rcases h1 with h | h | h
      · exact .inl (.inl h)
      · exact .inr (.inl h)
      · exact .inr (.inr (.inl h))
    exact (refLens_a a c l limit w hl hg0 hg1 h1).mono fun e w' ⟨h2, h3⟩ => ⟨by rw [h3]; exact Fr.refl _ _, .inl ⟨hb, h2⟩⟩
  · by_cases h2 : badC l
    · exact (refLens_b a c l limit w hs (by omega) (by omega) (by omega) h2).mono fun e w' ⟨h3, h4⟩ => ⟨by rw [h4]; exact Fr.refl _ _, .inl ⟨.inl h2, h3⟩⟩
    · by_cases h3 : limit < (needN ((sortC l).length : Int) : Int)
      · exact (refLens_c a c l limit w hs (by omega) h2 (by omega) (by omega) h3).mono fun e w' ⟨h4, h5⟩ => ⟨h5, .inl ⟨.inr (.inr (.inr h3)), h4⟩⟩
      · have hb : ¬ badP l limit := by
          rintro (h | h | h | h)
          · exact h2 h
          · omega
          · omega
          · exact h3 h
        rcases (show (sortC l).length = 0 ∨ (sortC l).length = 1 ∨ 2 ≤ (sortC l).length by omega) with h | h | h
        · exact (refLens_0 a c l limit w hs (by omega) h2 (by omega) (by omega) (by omega) h).mono fun e w' ⟨gl, k1, k2, k3⟩ => ⟨k3, .inr ⟨hb, gl, k1, k2⟩⟩
        · exact (refLens_1 a c l limit w hs (by omega) h2 (by omega) (by omega) (by omega) h).mono fun e w' ⟨gl, k1, k2, k3⟩ => ⟨k3, .inr ⟨hb, gl, k1, k2⟩⟩
        · exact (refLens_n a c l limit w hs (by omega) h2 (by omega) (by omega) (by omega) h).mono fun e w' ⟨gl, k1, k2, k3⟩ => ⟨k3, .inr ⟨hb, gl, k1, k2⟩⟩
set_option maxRecDepth 2000000 in
set_option maxHeartbeats 6400000 in
theorem packTells_walk (w : World) (a0 : Option Addr) (c0 : Nat) (x0 : List Int) (l0 : x0.length ≤ maxLen) (s0 : SlOf (Zn .i64) 1 w a0 x0) (o0 : ∀ x, x ∈ x0 → -9223372036854775808 ≤ x ∧ x ≤ 9223372036854775807) (a1 : Int) (w1 : (Lit.int .i64 a1).wf = true) (a2 : Int) (w2 : (Lit.int .i64 a2).wf = true) :
    Calls Try.prog 3 #[.slice a0 x0.length c0, .int .i64 a1, .int .i64 a2] w fun e w' => e = .returned (.bool true) ∧ Below w.heap.size w w' := by
  unfold maxLen at l0
  have hl1 : (x0.length : Int) ≤ 9223372036854775807 := by omega
  have HA := Lib.hid alive_any
  have ha1 : -9223372036854775808 ≤ a1 ∧ a1 ≤ 9223372036854775807 := by simp [Lit.wf, IntKind.min, IntKind.max, IntKind.signed, IntKind.bits] at w1; omega
  have ha2 : -9223372036854775808 ≤ a2 ∧ a2 ≤ 9223372036854775807 := by simp [Lit.wf, IntKind.min, IntKind.max, IntKind.signed, IntKind.bits] at w2; omega
  obtain ⟨ha3, ha4⟩ := ha1
  obtain ⟨ha5, ha6⟩ := ha2
  clear w1 w2
  by_cases hbig : 330 < x0.length
  · have h1 : (330 : Int) < (x0.length : Int) := by omega
    clear hbig s0 o0 l0
    go_enter Try.func3, Try.ntmps3
    go_wp2_with fail
    refine (HA.out _).mono ?_
    rintro e w1 ⟨rfl, hf⟩
    have HF := Lib.hid hf
    clear hf
    go_wp2_with fail
    go_ret
    exact ⟨rfl, HF.out.below⟩
  have h1 : (x0.length : Int) ≤ 330 := by omega
  have HL := Lib.hid (lens_any a0 c0 x0 a1 w s0 l0 ha3 ha4)
  have HR := Lib.hid (fun W (f : Fr [] w W) => refLens_any a0 c0 x0 a1 W (s0.below f.below) l0 ha3 ha4)
  obtain ⟨nd, hnd⟩ : ∃ nd, needN a2 = nd := ⟨_, rfl⟩
  have HN1 := Lib.hid (fun W => needs_any a2 W ha5 ha6)
  have HN2 := Lib.hid (fun W (h : a2 ≤ 1099511627776) => refNeeds_any a2 W ha5 h)
  rw [hnd] at HN1 HN2
  clear hbig s0 o0 l0 hnd
  go_enter Try.func3, Try.ntmps3
  go_wp2_with fail
  refine HL.out.mono ?_
  rintro e w2 ⟨f2, hc⟩
  have F2 := Lib.hid f2
  have HC := Lib.hid hc
  have hsh : ∃ v z, e = .returned (.tuple #[v, .int .i64 z]) ∧ (badP x0 a1 ∧ v = .slice none 0 0 ∧ z = 2 ∨ ¬ badP x0 a1 ∧ z = 0 ∧ ∃ gl, v = .slice (some ⟨gl, 0, none⟩) x0.length x0.length ∧ Nrow w2 gl 5 .u8 x0.length (lenS x0 a1.toNat)) := by
    rcases hc with ⟨h1, rfl⟩ | ⟨h1, gl, rfl, _, h4⟩
    · exact ⟨_, _, rfl, .inl ⟨h1, rfl, rfl⟩⟩
    · exact ⟨_, _, rfl, .inr ⟨h1, rfl, gl, rfl, h4⟩⟩
  obtain ⟨v, z, rfl, hv⟩ := hsh
  clear f2 hc HC HL
  rcases hv with ⟨hbad, rfl, rfl⟩ | ⟨hgood, rfl, ga, rfl, hNa⟩
  · have HB := Lib.hid hbad
    clear hbad
    go_wp2_with fail
    refine (HR.out _ F2.out).mono ?_
    rintro e w3 ⟨f3, ⟨_, rfl⟩ | ⟨hn, _⟩⟩
    · have F3 := Lib.hid (F2.out.trans f3)
      have HS := Lib.hid (al_same none none 0 0 0 [] w3 rfl (fun h => absurd rfl h) (fun h => absurd rfl h) (by simp) (fun x hx => by simp at hx))
      clear f3
      go_wp2_with fail
      refine HS.out.mono ?_
      rintro e w4 ⟨rfl, f4⟩
      have F4 := Lib.hid (F3.out.trans f4)
      clear f4 HS
      by_cases hn : 1099511627776 < a2
      · go_wp2_with fail
        refine (HA.out _).mono ?_
        rintro e w5 ⟨rfl, f5⟩
        have F5 := Lib.hid (F4.out.trans f5)
        clear f5
        go_wp2_with fail
        go_ret
        exact ⟨rfl, F5.out.below⟩
      · have hn' : a2 ≤ 1099511627776 := by omega
        have hnd : decide (1099511627776 < a2) = false := by simp; omega
        clear hn
        go_wp2_with fail
        refine (HN1.out _).mono ?_
        rintro e w5 ⟨rfl, hw⟩
        replace hw := hw.symm
        subst hw
        go_wp2_with fail
        refine (HN2.out _ hn').mono ?_
        rintro e w5 ⟨rfl, hw⟩
        replace hw := hw.symm
        subst hw
        go_wp2_with fail
        refine (HA.out _).mono ?_
        rintro e w5 ⟨rfl, f5⟩
        have F5 := Lib.hid (F4.out.trans f5)
        clear f5
        go_wp2_with fail
        go_ret
        exact ⟨rfl, F5.out.below⟩
    · exact absurd HB.out hn
  · have HB := Lib.hid hgood
    have HNa := Lib.hid hNa
    clear hgood hNa
    go_wp2_with fail
    refine (HR.out _ F2.out).mono ?_
    rintro e w3 ⟨f3, ⟨hb, _⟩ | ⟨_, gb, rfl, hNb⟩⟩
    · exact absurd hb HB.out
    · have F3 := Lib.hid (F2.out.trans f3)
      have hb' := HB.out
      unfold badP at hb'
      simp only [not_or] at hb'
      obtain ⟨hb1, hb2, hb3, hb4⟩ := hb'
      obtain ⟨M, hM⟩ : ∃ M, a1.toNat = M := ⟨_, rfl⟩
      have hroom : (sortC x0).length ≤ 2 ^ M := need_room (by omega)
      have HS := Lib.hid (al_same (some ⟨ga, 0, none⟩) (some ⟨gb, 0, none⟩) x0.length x0.length x0.length ((List.range x0.length).map (lenS x0 a1.toNat)) w3 (by simp) (sl_nrow (HNa.out.to f3 (by simp))) (sl_nrow hNb) (by simp; omega) (fun y hy => by
        obtain ⟨s, _, rfl⟩ := List.mem_map.1 hy
        have := lens_fits x0 M (by omega) hroom s
        rw [hM]; omega))
      clear f3 hNb hb1 hb2 hb3 hb4 hM hroom
      go_wp2_with fail
      refine HS.out.mono ?_
      rintro e w4 ⟨rfl, f4⟩
      have F4 := Lib.hid (F3.out.trans f4)
      clear f4 HS
      by_cases hn : 1099511627776 < a2
      · go_wp2_with fail
        refine (HA.out _).mono ?_
        rintro e w5 ⟨rfl, f5⟩
        have F5 := Lib.hid (F4.out.trans f5)
        clear f5
        go_wp2_with fail
        go_ret
        exact ⟨rfl, F5.out.below⟩
      · have hn' : a2 ≤ 1099511627776 := by omega
        have hnd : decide (1099511627776 < a2) = false := by simp; omega
        clear hn
        go_wp2_with fail
        refine (HN1.out _).mono ?_
        rintro e w5 ⟨rfl, hw⟩
        replace hw := hw.symm
        subst hw
        go_wp2_with fail
        refine (HN2.out _ hn').mono ?_
        rintro e w5 ⟨rfl, hw⟩
        replace hw := hw.symm
        subst hw
        go_wp2_with fail
        refine (HA.out _).mono ?_
        rintro e w5 ⟨rfl, f5⟩
        have F5 := Lib.hid (F4.out.trans f5)
        clear f5
        go_wp2_with fail
        go_ret
        exact ⟨rfl, F5.out.below⟩
end Go.Proofs.Ytmajacfcfdljeaa
