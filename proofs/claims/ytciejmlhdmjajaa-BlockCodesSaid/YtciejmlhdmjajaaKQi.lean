/- What is in the rows of the levels, plain; rows of the reference. platenref06's Lens: of two symbols or more. -/
import Derived.Test.YtciejmlhdmjajaaKQg
import Derived.Test.YtciejmlhdmjajaaKQh
namespace Go.Proofs.Ytciejmlhdmjajaa
open Go.RowKit
set_option linter.unusedVariables false
set_option linter.unusedSimpArgs false

theorem lev_occs (l : List Int) (j k : Nat) (hk : k ≤ (lev PT.node ((sortC l).map leafP) j).length) (s : Nat) :
    tot (fun x : Nat × PT => occ x.2 s) ((lev PT.node ((sortC l).map leafP) j).take k) ≤ j + 1 ∧ ((∀ p ∈ sortC l, s ≠ p.2) → tot (fun x : Nat × PT => occ x.2 s) ((lev PT.node ((sortC l).map leafP) j).take k) = 0) := by
  obtain ⟨a, a1, a2, a3, _, _⟩ := len_shape symP PT.node occ (fun _ _ _ => rfl) ((sortC l).map leafP) (occ_leafP _) (sortC_srt l) j k hk
  rw [a3]
  refine ⟨?_, fun hn => ?_⟩
  · have hone : ∀ m, kap symP (((sortC l).map leafP).take m) s ≤ 1 := by
      intro m
      by_cases hex : ∃ x ∈ (sortC l).map leafP, s = symP x.2
      · obtain ⟨x, hx, rfl⟩ := hex
        obtain ⟨q, hq⟩ := List.getElem?_of_mem hx
        rw [kap_get symP _ m q x (sortC_dst l) hq]
        split <;> omega
      · rw [kap_out symP _ s fun y hy he => hex ⟨y, List.mem_of_mem_take hy, he⟩]; omega
    refine Nat.le_trans (sumTo_le _ (fun _ => 1) j fun i _ => hone _) ?_
    rw [sumTo_const]; omega
  · rw [sumTo_congr _ (fun _ => 0) j (fun i _ => kap_out symP _ _ fun y hy he => by
      obtain ⟨p, hp, rfl⟩ := List.mem_map.1 (List.mem_of_mem_take hy)
      exact hn p hp he), sumTo_const]
    simp
theorem occ_some : ∀ p : PT, ∃ s, 0 < occ p s
  | .leaf s => ⟨s, by simp [occ]⟩
  | .node a b => by obtain ⟨s, h⟩ := occ_some a; exact ⟨s, by simp only [occ]; omega⟩
/-- How often a symbol is in the first things of a row. -/
def sumL (R : List (Nat × PT)) (i s : Nat) : Nat := tot (fun x : Nat × PT => occ x.2 s) (R.take i)
theorem sumL_succ (R : List (Nat × PT)) (i s : Nat) (hi : i < R.length) : sumL R (i + 1) s = sumL R i s + occ (R.getD i d0).2 s := by
  unfold sumL
  rw [List.take_add_one, List.getElem?_eq_getElem hi, tot_append, List.getD_eq_getElem?_getD, List.getElem?_eq_getElem hi]
  simp [tot]
/-- What is out behind i things and k symbols of the next one. -/
def outV (R : List (Nat × PT)) (F : Nat → Nat) (i k s : Nat) : Nat := (sumL R i s + if ((List.range k).any fun t => F t == s) = true then occ (R.getD i d0).2 s else 0) % 256
theorem outV_zero (R : List (Nat × PT)) (F : Nat → Nat) (i s : Nat) : outV R F i 0 s = sumL R i s % 256 := by simp [outV]
theorem any_iff (F : Nat → Nat) (k s : Nat) : ((List.range k).any fun t => F t == s) = true ↔ ∃ t, t < k ∧ F t = s := by
  rw [List.any_eq_true]
  constructor
  · rintro ⟨t, ht, he⟩; exact ⟨t, List.mem_range.1 ht, by simpa using he⟩
  · rintro ⟨t, ht, he⟩; exact ⟨t, List.mem_range.2 ht, by simpa using he⟩
theorem outV_step (R : List (Nat × PT)) (F : Nat → Nat) (n i k : Nat) (hk : k < n) (hinj : ∀ a b, a < n → b < n → F a = F b → a = b) (s : Nat) :
    outV R F i (k + 1) s = if s = F k then (outV R F i k (F k) + vecP F (R.getD i d0).2 k) % 256 else outV R F i k s := by
  unfold outV vecP
  by_cases hs : s = F k
  · subst hs
    rw [if_pos rfl, if_pos ((any_iff F (k + 1) (F k)).2 ⟨k, by omega, rfl⟩), if_neg (fun h => by
      obtain ⟨t, ht, he⟩ := (any_iff F k (F k)).1 h
      have := hinj t k (by omega) hk he
      omega)]
    omega
  · rw [if_neg hs]
    congr 2
    have : (((List.range (k + 1)).any fun t => F t == s) = true) ↔ (((List.range k).any fun t => F t == s) = true) := by
      rw [any_iff, any_iff]
      constructor
      · rintro ⟨t, ht, he⟩
        by_cases htk : t = k
        · subst htk; exact absurd he.symm hs
        · exact ⟨t, by omega, he⟩
      · rintro ⟨t, ht, he⟩; exact ⟨t, by omega, he⟩
    by_cases h : ((List.range k).any fun t => F t == s) = true
    · rw [if_pos h, if_pos (this.2 h)]
    · rw [if_neg h, if_neg (fun h' => h (this.1 h'))]
theorem outV_done (l : List Int) (F : Nat → Nat) (n i j : Nat) (hF : (List.range n).map (fun k => (wt0 l (F k), F k)) = sortC l) (hi : i < (lev PT.node ((sortC l).map leafP) j).length) (s : Nat) :
    outV (lev PT.node ((sortC l).map leafP) j) F i n s = sumL (lev PT.node ((sortC l).map leafP) j) (i + 1) s % 256 := by
  rw [sumL_succ _ _ _ hi]
  unfold outV
  by_cases h : ((List.range n).any fun t => F t == s) = true
  · rw [if_pos h]
  · rw [if_neg h]
    have hz := (lev_occs l j (i + 1) (by omega) s).2 (fun p hp he => h ((any_iff F n s).2 (by
      rw [← hF] at hp
      obtain ⟨t, ht, rfl⟩ := List.mem_map.1 hp
      exact ⟨t, List.mem_range.1 ht, he.symm⟩)))
    have := sumL_succ (lev PT.node ((sortC l).map leafP) j) i s hi
    unfold sumL at this ⊢
    rw [hz] at this
    congr 1; omega
/-- No row of a thing is all noughts. -/
theorem vec_some (l : List Int) (F : Nat → Nat) (n j : Nat) (hj : j ≤ 14) (hF : (List.range n).map (fun k => (wt0 l (F k), F k)) = sortC l) (i : Nat) (hi : i < (lev PT.node ((sortC l).map leafP) j).length) :
    ∃ k, k < n ∧ vecP F ((lev PT.node ((sortC l).map leafP) j).getD i d0).2 k ≠ 0 := by
  obtain ⟨s, hs⟩ := occ_some ((lev PT.node ((sortC l).map leafP) j).getD i d0).2
  have hsum := sumL_succ (lev PT.node ((sortC l).map leafP) j) i s hi
  obtain ⟨h1, h2⟩ := lev_occs l j (i + 1) (by omega) s
  unfold sumL at hsum
  have hex : ∃ p ∈ sortC l, s = p.2 := by
    apply Classical.byContradiction
    intro hn
    have := h2 (fun p hp he => hn ⟨p, hp, he⟩)
    omega
  obtain ⟨p, hp, rfl⟩ := hex
  rw [← hF] at hp
  obtain ⟨k, hk, rfl⟩ := List.mem_map.1 hp
  refine ⟨k, List.mem_range.1 hk, ?_⟩
  unfold vecP
  simp only at hs hsum h1
  rw [Nat.mod_eq_of_lt (by omega)]
  omega
theorem nrow_ne {w : World} {g g' n m : Nat} {A : Nat → Nat} (h : Nrow w g 5 .u8 n A) (h' : Nrow w g' 5 .u8 m (fun _ => 0)) (hk : ∃ k, k < n ∧ A k ≠ 0) : g ≠ g' := by
  rintro rfl
  obtain ⟨k, hk, hA⟩ := hk
  have c := h.cell k hk
  by_cases hm : k < m
  · rw [h'.cell k hm] at c
    simp at c
    omega
  · rw [cell_of h'] at c
    simp at c
    omega
end Go.Proofs.Ytciejmlhdmjajaa
namespace Go.Proofs.Ytciejmlhdmjajaa
open Go.RowKit
set_option linter.unusedVariables false
set_option linter.unusedSimpArgs false

theorem Vrow.base {w : World} {B B' : Nat} {v : Value} {n : Nat} {sy : Nat → Nat} {R : List (Nat × PT)} (h : Vrow w B v n sy R) (hB : B' ≤ B) : Vrow w B' v n sy R := by
  obtain ⟨G, h1, h2⟩ := h
  refine ⟨G, ⟨h1.1, ?_⟩, h2⟩
  rcases h1.2 with h | ⟨g, cap, cur, a1, a2, a3⟩
  · exact .inl h
  · exact .inr ⟨g, cap, cur, a1, by omega, a3⟩
theorem Vrow.form {w : World} {B : Nat} {v : Value} {n : Nat} {sy : Nat → Nat} {R : List (Nat × PT)} (h : Vrow w B v n sy R) (h0 : 0 < R.length) : ∃ g c, v = .slice (some ⟨g, 0, none⟩) R.length c := by
  obtain ⟨G, h1, _⟩ := h
  rcases h1.2 with ⟨_, h⟩ | ⟨g, cap, cur, rfl, _⟩
  · omega
  · exact ⟨g, cap, rfl⟩
/-- What holds at the head of a round of the loop that makes the leaves. -/
def LeavesR (w3 : World) (n : Nat) (F : Nat → Nat) (LL : List (Nat × PT)) (v10 v11 : Value) (wr : World) : Prop :=
  ∃ (i : Nat) (u10 : Value), u10 = v10 ∧ v11 = .int .i64 (i : Int) ∧ i ≤ n ∧ Vrow wr w3.heap.size v10 n F (LL.take i) ∧ Below w3.heap.size w3 wr
/-- What holds at the head of a round of the loop over the levels. -/
def LevelsR (w3 : World) (n m gl cl : Nat) (F : Nat → Nat) (LL : List (Nat × PT)) (v12 v13 : Value) (wr : World) : Prop :=
  ∃ (j gr cr : Nat), v12 = .slice (some ⟨gr, 0, none⟩) (lev PT.node LL j).length cr ∧ v13 = .int .i64 ((j + 2 : Nat) : Int) ∧ j + 1 ≤ m ∧ Vrow wr w3.heap.size (.slice (some ⟨gr, 0, none⟩) (lev PT.node LL j).length cr) n F (lev PT.node LL j) ∧ Vrow wr w3.heap.size (.slice (some ⟨gl, 0, none⟩) LL.length cl) n F LL ∧ Fr [] w3 wr
set_option maxRecDepth 2000000 in
set_option maxHeartbeats 12800000 in
theorem refLens_n (a : Option Addr) (c : Nat) (l : List Int) (limit : Int) (w : World) (hs : SlOf (Zn .i64) 1 w a l) (hl : l.length ≤ 320) (hgood : ¬ badC l) (hg0 : 1 ≤ limit) (hg1 : limit ≤ 15) (hneed : (needN ((sortC l).length : Int) : Int) ≤ limit) (h0 : 2 ≤ (sortC l).length) :
    Calls Try.prog 30 #[.slice a l.length c, .int .i64 limit] w fun e w' => ∃ gl, e = .returned (.tuple #[.slice (some ⟨gl, 0, none⟩) l.length l.length, .int .i64 0]) ∧ Nrow w' gl 5 .u8 l.length (lenS l limit.toNat) ∧ Fr [] w w' := by
  have hl1 : (l.length : Int) ≤ 320 := by omega
  have hok0 : ∀ x ∈ l, 0 ≤ x ∧ x ≤ 1073741824 := fun x hx => by
    unfold badC at hgood
    rcases Int.lt_or_le x 0 with h | h
    · exact absurd (.inr ⟨x, hx, .inl h⟩) hgood
    · rcases Int.lt_or_le 1073741824 x with h' | h'
      · exact absurd (.inr ⟨x, hx, .inr h'⟩) hgood
      · exact ⟨h, h'⟩
  have HX := Lib.hid (And.intro hs (And.intro hl hok0))
  have HSY := Lib.hid (symbols_any a c l w hs hl hok0)
  obtain ⟨n, hn⟩ : ∃ n, (sortC l).length = n := ⟨_, rfl⟩
  rw [hn] at HSY hneed h0
  have hn320 : n ≤ 320 := by have := leafL_len l 0; have := sortC_length l; omega
  have hni : (n : Int) ≤ 320 := by omega
  obtain ⟨nd, hnd⟩ : ∃ nd, needN (n : Int) = nd := ⟨_, rfl⟩
  rw [hnd] at hneed
  have HND := Lib.hid (fun W => refNeeds_any (n : Int) W (by omega) (by omega))
  rw [hnd] at HND
  have HN := Lib.hid (And.intro hn hnd)
  have hdl1 : decide (limit < 1) = false := by simp; omega
  have hdl2 : decide (15 < limit) = false := by simp; omega
  have hdl3 : decide (limit < (nd : Int)) = false := by simp; omega
  clear hs hgood hl hok0 hn hnd
  go_enter Try.func30, Try.ntmps30
  go_wp2_with fail
  go_loopw [6] (fun v6 wr => ∃ j : Nat, v6 = .int .i64 (j : Int) ∧ j ≤ l.length ∧ wr = w) (fun v6 _ => l.length - (intOf v6).toNat)
  case atStart => exact ⟨0, rfl, Nat.zero_le _, rfl⟩
  case round =>
    obtain ⟨j, rfl, hj, hw⟩ := hrel
    replace hw := hw.symm
    subst hw
    by_cases hjl : j < l.length
    · have hji : (j : Int) < (l.length : Int) := by omega
      obtain ⟨x, hx⟩ : ∃ x, l[j]? = some x := ⟨l[j], List.getElem?_eq_getElem hjl⟩
      obtain ⟨g1, o1, rfl, hb1, hc1⟩ := HX.out.1 (by intro h; rw [h] at hx; simp at hx)
      have c1 := hc1 j x hx 0 (.int .i64 x) rfl
      rw [Nat.mul_one, Nat.add_zero] at c1
      obtain ⟨h0i, h1i⟩ := HX.out.2.2 x (List.mem_of_getElem? hx)
      clear hc1 hx
      go_wp2_with fail
      exact ⟨⟨j + 1, by go_num, by omega, by first | rfl | trivial⟩, by simp [intOf]; omega⟩
    · have hjd : decide (j < l.length) = false := by simp; omega
      clear hj hjl
      go_wp2_with fail
      refine HSY.out.mono ?_
      rintro e w1 ⟨v, F, rfl, hown, hF, hbel⟩
      have HB := Lib.hid hbel
      rcases hown.2 with ⟨_, h⟩ | ⟨gs, cs, cur, rfl, _⟩
      · omega
      have hmk := run_make_bytes w1 l.length (by have := HX.out.2.1; omega)
      have hn2 : 2 ≤ (n : Int) := by omega
      have hd1 : ((n : Int) == 1) = false := by rw [beq_eq_false_iff_ne]; omega
      have hd2 : decide ((n : Int) < 2) = false := by simp; omega
      have HS := Lib.hid (And.intro hown hF)
      obtain ⟨LL, hLL⟩ : ∃ LL, LL = (sortC l).map leafP := ⟨_, rfl⟩
      have HLL := Lib.hid hLL
      clear hown hF hbel hLL
      go_wp2_with fail
      refine (HND.out _).mono ?_
      rintro e w2 ⟨rfl, hw⟩
      replace hw := hw.symm
      subst hw
      go_wp2_with fail
      obtain ⟨w3, hw3⟩ : ∃ w3, w1.alloc (.cells (Lib.byteCells (List.replicate l.length 0)).toArray 5) = w3 := ⟨_, rfl⟩
      have hf3 : Fr [] w1 w3 := by rw [← hw3]; exact Fr.alloc [] _ _
      have hM3 : Nrow w3 w1.heap.size 5 .u8 l.length (fun _ => 0) := by rw [← hw3]; exact made_row w1 l.length
      rw [hw3]
      have H3 := Lib.hid (And.intro hf3 hM3)
      clear hf3 hM3 hw3 hmk
      go_loopw [10, 11] (fun v10 v11 wr => LeavesR w3 n F LL v10 v11 wr) (fun _ v11 _ => n - (intOf v11).toNat)
      case atStart => exact ⟨0, _, rfl, rfl, Nat.zero_le _, by simpa using Vrow.nil _ _ _ _, Below.refl _ _⟩
      case round =>
        obtain ⟨i, u10, rfl, rfl, hi, hV, hbel⟩ := hrel
        by_cases hin : i < n
        · have hii : (i : Int) < (n : Int) := by omega
          obtain ⟨cc, hcc, hc0, hcw⟩ := refS_is HS.out.2 hin
          obtain ⟨cn, rfl⟩ := Int.eq_ofNat_of_zero_le (show 0 ≤ cc by omega)
          have hfl := (List.getElem?_eq_some_iff.1 hcc).1
          have q0 := own_cell HS.out.1 i hin
          have hgs := (HS.out.1.lt gs rfl).2
          obtain ⟨u, hu⟩ : ∃ u, F i = u := ⟨_, rfl⟩
          rw [hu] at q0 hfl hcc
          have hui : (u : Int) < (l.length : Int) := by omega
          have hbw3 : Below w1.heap.size w1 wr := ((H3.out.1).trans (Fr.of_below hbel)).below
          have q1 : wr.cell? ⟨gs, i, none⟩ = some (.int .i64 (u : Int)) := by rw [hbw3.cell (p := ⟨gs, i, none⟩) hgs]; exact q0
          obtain ⟨g1, o1, rfl, hb1, hc1⟩ := HX.out.1 (by intro h; rw [h] at hcc; simp at hcc)
          have c1 := hc1 u cn hcc 0 (.int .i64 (cn : Int)) rfl
          rw [Nat.mul_one, Nat.add_zero] at c1
          have hbw : Below w.heap.size w wr := ((Fr.of_below (l := []) HB.out).trans (Fr.of_below hbw3)).below
          have q2 : wr.cell? ⟨g1, o1 + u, none⟩ = some (.int .i64 (cn : Int)) := by rw [hbw.cell (p := ⟨g1, o1 + u, none⟩) hb1]; exact c1
          have hgsr : gs < wr.heap.size := by have := hbw3.size; omega
          have hg1r : g1 < wr.heap.size := by have := hbw.size; omega
          have hcb := (HX.out.2.2 _ (List.mem_of_getElem? hcc)).2
          have hcb2 : (cn : Int) ≤ 1073741824 := hcb
          have HLF := Lib.hid (leaf_any cn i n wr (by omega) hin (by omega))
          unfold rv at HLF
          obtain ⟨G, hG1, hG2⟩ := hV
          have hLll : (LL.take i).length = i := by rw [HLL.out, List.length_take, List.length_map, HN.out.1]; omega
          unfold rowCells at hG1
          rw [hLll] at hG1 hG2
          have hLx : LL[i]? = some (cn, .leaf (F i)) := by rw [HLL.out, List.getElem?_map, refS_get HS.out.2 hin, hcw]; simp [leafP]
          have HV := Lib.hid (And.intro hG1 (And.intro hG2 (And.intro hLll (And.intro hLx hbel))))
          have hsz := hbel.size
          clear hG1 hG2 hLll hLx hbel hcc hfl q0 c1 hc1 hu hbw3 hbw hcw hcb
          go_wp2_with fail
          refine HLF.out.mono ?_
          rintro e w5 ⟨g5, rfl, hge5, hN5, f5⟩
          have H5 := Lib.hid (And.intro hN5 f5)
          have HO5 := Lib.hid (ownsRow_to HV.out.1 f5 (by simp))
          have HB5 := Lib.hid (f5.out HV.out.2.2.2.2 (by simp))
          have hsz5 : w3.heap.size ≤ w5.heap.size := Nat.le_trans hsz f5.size
          clear hge5 hN5 f5
          go_wp2_with (first | (at_builtin; go_must (refine wpList_push w3.heap.size w3 w5 rfl (.tmp 71) (.tmp 82) 109 rfl 111 2 32 elemV u10 i _ rfl HO5 HB5 hsz5 #[.int .i64 (cn : Int), .slice (some ⟨g5, 0, none⟩) n n] 1 1 rfl rfl rfl (by omega) (by omega) (by omega) ?_); intro g6 c6 w6 HQ))
          go_roundw
          case rel =>
            obtain ⟨hG1, hG2, hLll, hLx, hbel⟩ := HV.out
            have fA := (H5.out.2).trans (Fr.alloc [] w5 (.cells #[.int .i64 (cn : Int), .slice (some ⟨g5, 0, none⟩) n n] 111))
            have hownA := ownsRow_to hG1 fA (by simp)
            refine ⟨i + 1, _, rfl, by go_num, by omega, ?_, HQ.out.below⟩
            rw [List.take_add_one, hLx, Option.toList_some]
            refine Vrow.snoc (g := g5) (G := G) ?_ (fun k hk => ?_) ?_
            · rw [hLll]
              have := HQ.out.own
              unfold rowCells
              rw [hLll]
              exact this
            · rw [hLll] at hk
              exact vecs_grown hownA HQ.out.grown ((hG2 k hk).to fA (by simp))
            · refine (vecs_grown hownA HQ.out.grown ((H5.out.1).to (Fr.alloc [] w5 _) (by simp))).congr fun k hk => ?_
              unfold vecP
              simp only [occ]
              by_cases e : k = i
              · subst e; simp
              · rw [if_neg e, if_neg (fun h => e (refS_inj HS.out.2 hk hin h))]
          case measure => simp [intOf]; omega
        · have hie : i = n := by omega
          have hid : decide (i < n) = false := by simp; omega
          have hLl : LL.length = n := by rw [HLL.out, List.length_map, HN.out.1]
          rw [hie, List.take_of_length_le (by omega)] at hV
          obtain ⟨gl, cl, hv⟩ := hV.form (by omega)
          rw [hLl] at hv
          subst hv
          have HV := Lib.hid (And.intro hV (And.intro hbel hLl))
          clear hV hbel hLl hie hi hin
          obtain ⟨m, rfl⟩ := Int.eq_ofNat_of_zero_le (show 0 ≤ limit by omega)
          go_wp2_with fail
          go_loopw [12, 13] (fun v12 v13 wr => LevelsR w3 n m gl cl F LL v12 v13 wr) (fun _ v13 _ => m + 1 - (intOf v13).toNat)
          case atStart =>
            obtain ⟨h1, h2, h3⟩ := HV.out
            exact ⟨0, gl, cl, by rw [lev, h3], rfl, by omega, by rw [lev, h3]; exact h1, by rw [h3]; exact h1, Fr.of_below h2⟩
          case round =>
            obtain ⟨j, gr, cr, rfl, rfl, hj, hVR, hVL, hf⟩ := hrel
            obtain ⟨k, hk⟩ : ∃ k, j + 2 = k := ⟨_, rfl⟩
            rw [hk]
            obtain ⟨R, hR⟩ : ∃ R, lev PT.node LL j = R := ⟨_, rfl⟩
            have hRl : n ≤ R.length ∧ R.length ≤ 2 * n := by
              rw [← hR]
              have hLl := HV.out.2.2
              refine ⟨?_, by have := lev_le PT.node LL j; omega⟩
              cases j with
              | zero => rw [lev]; omega
              | succ j => rw [lev_length]; omega
            have hLw : ∀ x ∈ LL, x.1 ≤ 1073741824 := fun x hx => by
              rw [HLL.out] at hx
              obtain ⟨p, hp, rfl⟩ := List.mem_map.1 hx
              obtain ⟨c', hc', _, h3⟩ := (sortC_mem l p).1 hp
              have := (HX.out.2.2 c' (List.mem_of_getElem? hc')).2
              simp only [leafP]; omega
            have hRw := lev_w hLw j
            rw [hR] at hVR hRw ⊢
            have hm15 : m ≤ 15 := by omega
            have hjk : j ≤ 14 := by omega
            have hpow : 2 ^ (30 + j) ≤ 2 ^ 44 := Nat.pow_le_pow_right (by decide) (by omega)
            by_cases hkm : k ≤ m
            · have hkmi : (k : Int) ≤ (m : Int) := by omega
              have HNX := Lib.hid (next_any n gl cl gr cr F LL R wr w3.heap.size w3.heap.size hVL hVR (by omega) (by omega) (by omega) (by have := HV.out.2.2; omega) (fun x hx => by have := hRw x hx; omega) (fun x hx => by have := hLw x hx; omega))
              rw [HV.out.2.2] at HNX
              have HJ := Lib.hid (And.intro hk (And.intro hR (And.intro hVL (And.intro hf hRl))))
              obtain ⟨rl, hrl⟩ : ∃ rl, R.length = rl := ⟨_, rfl⟩
              rw [hrl] at HNX ⊢
              clear hRl hLw hRw hVR hVL hf hk hR hpow hj hrl
              go_wp2_with fail
              refine HNX.out.mono ?_
              rintro e w5 ⟨v, rfl, hV5, hb5⟩
              have hlev : lev PT.node LL (j + 1) = mrg LL (prs PT.node R) := by rw [lev, HJ.out.2.1]
              have hll : 0 < (lev PT.node LL (j + 1)).length := by rw [lev_length, HV.out.2.2]; omega
              rw [← hlev] at hV5
              obtain ⟨g5, c5, rfl⟩ := hV5.form hll
              have H5 := Lib.hid (And.intro hV5 hb5)
              clear hV5 hb5 hlev hll
              go_wp2_with fail
              go_roundw
              case rel =>
                obtain ⟨hk, hR, hVL, hf, hRl⟩ := HJ.out
                exact ⟨j + 1, g5, c5, rfl, by rw [← hk]; go_num, by omega, (H5.out.1).base hf.size, hVL.to (Fr.of_below H5.out.2), hf.trans (Fr.of_below H5.out.2)⟩
              case measure => simp [intOf]; omega
            · have hkd : decide (k ≤ m) = false := by simp; omega
              have hjm : j + 1 = m := by omega
              obtain ⟨n2, hn2e⟩ : ∃ n2, 2 * n = n2 := ⟨_, rfl⟩
              obtain ⟨K, hKe⟩ : ∃ K, n2 - 2 = K := ⟨_, rfl⟩
              have e1 : (2 : Int) * (n : Int) = (n2 : Int) := by omega
              have e2 : (n2 : Int) - 2 = (K : Int) := by omega
              have hn2b : (n2 : Int) ≤ 640 := by omega
              have hn2c : 4 ≤ (n2 : Int) := by omega
              have hKb : (K : Int) ≤ 640 := by omega
              rw [HLL.out] at hR
              have hroom : K ≤ R.length := by
                rw [← hR]
                have h4 := lev_room PT.node ((sortC l).map leafP) j 2 (by
                  have := need_room (n := n) (k := m) (by rw [HN.out.2]; omega)
                  rw [List.length_map, HN.out.1, ← hjm, Nat.pow_succ] at *
                  omega)
                rw [List.length_map, HN.out.1] at h4
                omega
              obtain ⟨GR, hGR1, hGR2⟩ := hVR
              obtain ⟨rl, hrl⟩ : ∃ rl, R.length = rl := ⟨_, rfl⟩
              have hgr := hGR1.lt gr rfl
              have hout := (H3.out.2).to hf (by simp)
              have hgo3 : w3.heap.size = w1.heap.size + 1 ∨ w1.heap.size < w3.heap.size := .inr (lt_of H3.out.2)
              have hgor : gr ≠ w1.heap.size := by have := hgr.1; have := lt_of H3.out.2; omega
              have hGne : ∀ t, t < R.length → GR t ≠ w1.heap.size := fun t ht => nrow_ne (hGR2 t ht) hout (by
                have := vec_some l F n j hjk HS.out.2 t (by rw [hR]; exact ht)
                rwa [hR] at this)
              rw [hrl] at hroom
              have hroomi : (K : Int) ≤ (rl : Int) := by omega
              have hrlb : (rl : Int) ≤ 640 := by omega
              have HJ := Lib.hid (And.intro hR (And.intro hGR1 (And.intro hGR2 (And.intro hGne (And.intro hout (And.intro hf (And.intro hrl (And.intro hn2e (And.intro hKe (And.intro hjm (And.intro hroom (And.intro hgr.2 hgor))))))))))))
              rw [hrl]
              have hgs1 := (HS.out.1.lt gs rfl).2
              have hgs3 : gs < w3.heap.size := by have := lt_of H3.out.2; omega
              clear hRl hLw hRw hVL hf hk hR hpow hj hjm hkm hGR1 hGR2 hGne hout hgor hgo3 hrl hn2e hKe hroom hgr
              obtain ⟨wo, hwo⟩ : ∃ wo, wo = wr := ⟨wr, rfl⟩
              subst hwo
              go_wp2_with fail
              go_loopw [14, 15] (fun v14 _ wr => ∃ i : Nat, v14 = .int .i64 (i : Int) ∧ i ≤ K ∧ Hid (Nrow wr w1.heap.size 5 .u8 l.length (fun s => sumL R i s % 256)) ∧ Fr [w1.heap.size] wo wr) (fun v14 _ _ => K - (intOf v14).toNat)
              case atStart => exact ⟨0, rfl, Nat.zero_le _, Lib.hid (HJ.out.2.2.2.2.1.congr fun s _ => by simp [sumL, tot]), Fr.refl _ _⟩
              case round =>
                obtain ⟨i', rfl, hi', hN, hf⟩ := hrel
                by_cases hiK : i' < K
                · have hiKi : (i' : Int) < (K : Int) := by omega
                  have hirl : (i' : Int) < (rl : Int) := by omega
                  have HO := Lib.hid (And.intro hN.out hf)
                  clear hN hf
                  go_wp2_with fail
                  go_loopw [15] (fun v15 wr => ∃ t : Nat, v15 = .int .i64 (t : Int) ∧ t ≤ n ∧ Hid (Nrow wr w1.heap.size 5 .u8 l.length (outV R F i' t)) ∧ Fr [w1.heap.size] wo wr) (fun v15 _ => n - (intOf v15).toNat)
                  case atStart => exact ⟨0, rfl, Nat.zero_le _, Lib.hid (HO.out.1.congr fun s _ => outV_zero R F i' s), HO.out.2⟩
                  case round =>
                    clear HO
                    obtain ⟨t, rfl, ht, hN, hf⟩ := hrel
                    by_cases htn : t < n
                    · have hti : (t : Int) < (n : Int) := by omega
                      obtain ⟨cc, hcc, hc0, _⟩ := refS_is HS.out.2 htn
                      have hfl := (List.getElem?_eq_some_iff.1 hcc).1
                      have q0 := own_cell HS.out.1 t htn
                      obtain ⟨u, hu⟩ : ∃ u, F t = u := ⟨_, rfl⟩
                      rw [hu] at q0 hfl
                      have hui : (u : Int) < (l.length : Int) := by omega
                      obtain ⟨hR, hGR1, hGR2, hGne, hout, hfo, hrl, hn2e, hKe, hjm, hroom, hgr2, hgor⟩ := HJ.out
                      have hlt1 : w1.heap.size < wo.heap.size := lt_of hout
                      have s0 : wr.cell? ⟨gs, t, none⟩ = some (.int .i64 (u : Int)) := by
                        have e1 : wo.cell? ⟨gs, t, none⟩ = w1.cell? ⟨gs, t, none⟩ := ((H3.out.1).trans hfo).below.cell (p := ⟨gs, t, none⟩) hgs1
                        rw [World.cell?_of_block (a := ⟨gs, t, none⟩) (hf.block gs (by omega) (by simp; omega)), e1]; exact q0
                      obtain ⟨r0, r1⟩ := vrow_cell hGR1 i' (by omega)
                      have r1' : wr.cell? ⟨gr, i' * 2 + 1, none⟩ = some (.slice (some ⟨GR i', 0, none⟩) n n) := by
                        rw [World.cell?_of_block (a := ⟨gr, i' * 2 + 1, none⟩) (hf.block gr hgr2 (by simpa using hgor))]; exact r1
                      have vv := ((hGR2 i' (by omega)).to hf (by simpa using hGne i' (by omega))).cell t htn
                      have hgv := lt_of ((hGR2 i' (by omega)).to hf (by simpa using hGne i' (by omega)))
                      obtain ⟨gv, hgv'⟩ : ∃ gv, GR i' = gv := ⟨_, rfl⟩
                      rw [hgv'] at r1' vv hgv
                      have o0 := hN.out.cell u hfl
                      have fz := free_of hN.out u
                      obtain ⟨x, hx⟩ : ∃ x, outV R F i' t u = x := ⟨_, rfl⟩
                      obtain ⟨y, hy⟩ : ∃ y, vecP F (R.getD i' d0).2 t = y := ⟨_, rfl⟩
                      obtain ⟨z, hz⟩ : ∃ z, (x + y) % 256 = z := ⟨_, rfl⟩
                      rw [hx] at o0
                      rw [hy] at vv
                      have hxb : (x : Int) ≤ 255 := by have : outV R F i' t u < 256 := Nat.mod_lt _ (by decide); omega
                      have hyb : (y : Int) ≤ 255 := by have := vecP_le F (R.getD i' d0).2 t; omega
                      have ez : ((x : Int) + (y : Int)) % 256 = (z : Int) := by omega
                      have hset := hN.out.set_ (G := outV R F i' (t + 1)) u z (fun s _ => by
                        rw [outV_step R F n i' t htn (fun a b ha hb he => refS_inj HS.out.2 ha hb he) s, hu, hx, hy, hz])
                      have hgsr : gs < wr.heap.size := by have := hf.size; omega
                      have hgrr : gr < wr.heap.size := by have := hf.size; omega
                      have hgolt : w1.heap.size < wr.heap.size := lt_of hN.out
                      have HT := Lib.hid (And.intro hset hf)
                      clear hset hf hN hx hy hz hcc hc0 hfl q0 hu r0 r1 hgv' hR hGR1 hGR2 hGne hout hfo hrl hn2e hKe hjm hroom hgr2 hgor hlt1
                      go_wp2_with fail
                      refine wp_region_quiet_tail 22 (by kernel_rfl) (by kernel_rfl) ?_
                      simp only [List.take_succ_cons, List.take_zero, List.drop_succ_cons, List.drop_zero]
                      repeat go_big_quiet_step (fail)
                      refine wpQuiet_nil ?_
                      go_wp2_with fail
                      exact ⟨⟨t + 1, by go_num, by omega, Lib.hid ((HT.out.1).to (l := []) (Fr.drew (Fr.refl [] _)) (by simp)), HT.out.2.trans (Fr.drew (Fr.setCell _ _ _ _))⟩, by simp [intOf]; omega⟩
                    · have htd : decide (t < n) = false := by simp; omega
                      have hte : t = n := by omega
                      have HT := Lib.hid (And.intro hN.out (And.intro hf hte))
                      clear hN hf hte ht htn
                      go_wp2_with fail
                      go_roundw
                      case rel =>
                        obtain ⟨h1, h2, h3⟩ := HT.out
                        refine ⟨i' + 1, by go_num, by omega, Lib.hid (h1.congr fun s _ => ?_), h2⟩
                        have := outV_done l F n i' j HS.out.2 (by rw [HJ.out.1]; have := HJ.out.2.2.2.2.2.2.1; omega) s
                        rw [HJ.out.1] at this
                        rw [h3]; exact this.symm
                      case measure => simp [intOf]; omega
                · have hid2 : decide (i' < K) = false := by simp; omega
                  have hie2 : i' = K := by omega
                  have HT := Lib.hid (And.intro hN.out (And.intro hf hie2))
                  clear hN hf hie2 hi' hiK
                  go_wp2_with fail
                  go_ret2
                  obtain ⟨h1, h2, h3⟩ := HT.out
                  obtain ⟨hR, hGR1, hGR2, hGne, hout, hfo, hrl, hn2e, hKe, hjm, hroom, hgr2, hgor⟩ := HJ.out
                  have hfw : Fr [] w wo := (Fr.of_below HB.out).trans ((H3.out.1).trans hfo)
                  refine ⟨w1.heap.size, rfl, h1.congr fun s _ => ?_, h2.outL hfw (fun b hb => .inr (by simp at hb; rw [hb]; exact HB.out.size))⟩
                  have hlt := lens_fits l m (by omega) (by rw [HN.out.1]; exact need_room (by rw [HN.out.2]; omega)) s
                  rw [show ((m : Nat) : Int).toNat = m from Int.toNat_natCast m]
                  have hEq : lenS l m s = sumL R i' s := by
                    unfold lenS lensN lenOf
                    rw [HN.out.1, if_neg (by omega), List.length_map, HN.out.1, show m - 1 = j by omega, hR, h3, ← hKe, ← hn2e]
                    rfl
                  rw [hEq] at hlt ⊢
                  rw [Nat.mod_eq_of_lt (by omega)]
end Go.Proofs.Ytciejmlhdmjajaa

