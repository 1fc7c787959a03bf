/- platenref06's Lens: few symbols; all. -/
import Derived.Test.YtciejmlhdmjajaaKQg
namespace Go.Proofs.Ytciejmlhdmjajaa
open Go.RowKit
set_option linter.unusedVariables false
set_option linter.unusedSimpArgs false

theorem sym_slice {w : World} {B n : Nat} {v : Value} {xs : List Value} (h : w.ownsRow B 3 1 v n xs) : ∃ g0 c0, v = .slice g0 n c0 := by
  rcases h.2 with ⟨rfl, rfl⟩ | ⟨g, cap, cur, rfl, _⟩
  · exact ⟨_, _, rfl⟩
  · exact ⟨_, _, rfl⟩
set_option maxRecDepth 2000000 in
set_option maxHeartbeats 12800000 in
theorem refLens_c (a : Option Addr) (c : Nat) (l : List Int) (limit : Int) (w : World) (hs : SlOf (Zn .i64) 1 w a l) (hl : l.length ≤ 320) (hgood : ¬ badC l) (hg0 : 1 ≤ limit) (hg1 : limit ≤ 15) (hneed : limit < (needN ((sortC l).length : Int) : Int)) :
    Calls Try.prog 30 #[.slice a l.length c, .int .i64 limit] w fun e w' => e = .returned (.tuple #[.slice none 0 0, .int .i64 2]) ∧ Fr [] w w' := by
  have hl1 : (l.length : Int) ≤ 320 := by omega
  have hok0 : ∀ x ∈ l, 0 ≤ x ∧ x ≤ 1073741824 := fun x hx => by
    unfold badC at hgood
    rcases Int.lt_or_le x 0 with h | h
    · exact absurd (.inr ⟨x, hx, .inl h⟩) hgood
    · rcases Int.lt_or_le 1073741824 x with h' | h'
      · exact absurd (.inr ⟨x, hx, .inr h'⟩) hgood
      · exact ⟨h, h'⟩
  have HX := Lib.hid (And.intro hs (And.intro hl hok0))
  have HSY := Lib.hid (symbols_any a c l w hs hl hok0)
  obtain ⟨n, hn⟩ : ∃ n, (sortC l).length = n := ⟨_, rfl⟩
  rw [hn] at HSY hneed
  have hn320 : n ≤ 320 := by have := leafL_len l 0; have := sortC_length l; omega
  have hni : (n : Int) ≤ 320 := by omega
  obtain ⟨nd, hnd⟩ : ∃ nd, needN (n : Int) = nd := ⟨_, rfl⟩
  rw [hnd] at hneed
  have HND := Lib.hid (fun W => refNeeds_any (n : Int) W (by omega) (by omega))
  rw [hnd] at HND
  have HN := Lib.hid (And.intro hn hnd)
  clear hs hgood hl hok0 hn hnd
  go_enter Try.func30, Try.ntmps30
  go_wp2_with fail
  go_loopw [6] (fun v6 wr => ∃ j : Nat, v6 = .int .i64 (j : Int) ∧ j ≤ l.length ∧ wr = w) (fun v6 _ => l.length - (intOf v6).toNat)
  case atStart => exact ⟨0, rfl, Nat.zero_le _, rfl⟩
  case round =>
    obtain ⟨j, rfl, hj, hw⟩ := hrel
    replace hw := hw.symm
    subst hw
    by_cases hjl : j < l.length
    · have hji : (j : Int) < (l.length : Int) := by omega
      obtain ⟨x, hx⟩ : ∃ x, l[j]? = some x := ⟨l[j], List.getElem?_eq_getElem hjl⟩
      obtain ⟨g1, o1, rfl, hb1, hc1⟩ := HX.out.1 (by intro h; rw [h] at hx; simp at hx)
      have c1 := hc1 j x hx 0 (.int .i64 x) rfl
      rw [Nat.mul_one, Nat.add_zero] at c1
      obtain ⟨h0i, h1i⟩ := HX.out.2.2 x (List.mem_of_getElem? hx)
      clear hc1 hx
      go_wp2_with fail
      exact ⟨⟨j + 1, by go_num, by omega, by first | rfl | trivial⟩, by simp [intOf]; omega⟩
    · have hjd : decide (j < l.length) = false := by simp; omega
      clear hj hjl
      go_wp2_with fail
      refine HSY.out.mono ?_
      rintro e w1 ⟨v, F, rfl, hown, hF, hbel⟩
      obtain ⟨g0, c0, rfl⟩ := sym_slice hown
      have HB := Lib.hid hbel
      clear hown hF hbel
      go_wp2_with fail
      refine (HND.out _).mono ?_
      rintro e w2 ⟨rfl, hw⟩
      replace hw := hw.symm
      subst hw
      go_wp2_with fail
      go_ret2
      exact ⟨rfl, Fr.of_below HB.out⟩
set_option maxRecDepth 2000000 in
set_option maxHeartbeats 12800000 in
theorem refLens_0 (a : Option Addr) (c : Nat) (l : List Int) (limit : Int) (w : World) (hs : SlOf (Zn .i64) 1 w a l) (hl : l.length ≤ 320) (hgood : ¬ badC l) (hg0 : 1 ≤ limit) (hg1 : limit ≤ 15) (hneed : (needN ((sortC l).length : Int) : Int) ≤ limit) (h0 : (sortC l).length = 0) :
    Calls Try.prog 30 #[.slice a l.length c, .int .i64 limit] w fun e w' => ∃ gl, e = .returned (.tuple #[.slice (some ⟨gl, 0, none⟩) l.length l.length, .int .i64 0]) ∧ Nrow w' gl 5 .u8 l.length (lenS l limit.toNat) ∧ Fr [] w w' := by
  have hl1 : (l.length : Int) ≤ 320 := by omega
  have hok0 : ∀ x ∈ l, 0 ≤ x ∧ x ≤ 1073741824 := fun x hx => by
    unfold badC at hgood
    rcases Int.lt_or_le x 0 with h | h
    · exact absurd (.inr ⟨x, hx, .inl h⟩) hgood
    · rcases Int.lt_or_le 1073741824 x with h' | h'
      · exact absurd (.inr ⟨x, hx, .inr h'⟩) hgood
      · exact ⟨h, h'⟩
  have HX := Lib.hid (And.intro hs (And.intro hl hok0))
  have HSY := Lib.hid (symbols_any a c l w hs hl hok0)
  obtain ⟨n, hn⟩ : ∃ n, (sortC l).length = n := ⟨_, rfl⟩
  rw [hn] at HSY hneed h0
  have hn320 : n ≤ 320 := by have := leafL_len l 0; have := sortC_length l; omega
  have hni : (n : Int) ≤ 320 := by omega
  obtain ⟨nd, hnd⟩ : ∃ nd, needN (n : Int) = nd := ⟨_, rfl⟩
  rw [hnd] at hneed
  have HND := Lib.hid (fun W => refNeeds_any (n : Int) W (by omega) (by omega))
  rw [hnd] at HND
  have HN := Lib.hid (And.intro hn hnd)
  have hE := Lib.hid (show ∀ s, lenS l limit.toNat s = 0 from fun s => by unfold lenS; rw [hn, if_pos (by omega), List.eq_nil_of_length_eq_zero (hn.trans h0)]; rfl)
  clear hs hgood hl hok0 hn hnd
  go_enter Try.func30, Try.ntmps30
  go_wp2_with fail
  go_loopw [6] (fun v6 wr => ∃ j : Nat, v6 = .int .i64 (j : Int) ∧ j ≤ l.length ∧ wr = w) (fun v6 _ => l.length - (intOf v6).toNat)
  case atStart => exact ⟨0, rfl, Nat.zero_le _, rfl⟩
  case round =>
    obtain ⟨j, rfl, hj, hw⟩ := hrel
    replace hw := hw.symm
    subst hw
    by_cases hjl : j < l.length
    · have hji : (j : Int) < (l.length : Int) := by omega
      obtain ⟨x, hx⟩ : ∃ x, l[j]? = some x := ⟨l[j], List.getElem?_eq_getElem hjl⟩
      obtain ⟨g1, o1, rfl, hb1, hc1⟩ := HX.out.1 (by intro h; rw [h] at hx; simp at hx)
      have c1 := hc1 j x hx 0 (.int .i64 x) rfl
      rw [Nat.mul_one, Nat.add_zero] at c1
      obtain ⟨h0i, h1i⟩ := HX.out.2.2 x (List.mem_of_getElem? hx)
      clear hc1 hx
      go_wp2_with fail
      exact ⟨⟨j + 1, by go_num, by omega, by first | rfl | trivial⟩, by simp [intOf]; omega⟩
    · have hjd : decide (j < l.length) = false := by simp; omega
      clear hj hjl
      go_wp2_with fail
      refine HSY.out.mono ?_
      rintro e w1 ⟨v, F, rfl, hown, hF, hbel⟩
      subst h0
      obtain ⟨g0, c0, rfl⟩ := sym_slice hown
      have HB := Lib.hid hbel
      have hmk := run_make_bytes w1 l.length (by have := HX.out.2.1; omega)
      clear hown hF hbel
      go_wp2_with fail
      refine (HND.out _).mono ?_
      rintro e w2 ⟨rfl, hw⟩
      replace hw := hw.symm
      subst hw
      go_wp2_with fail
      go_ret2
      exact ⟨w1.heap.size, rfl, (made_row w1 l.length).congr fun s _ => hE.out s, (Fr.of_below HB.out).trans (Fr.alloc [] _ _)⟩
set_option maxRecDepth 2000000 in
set_option maxHeartbeats 12800000 in
theorem refLens_1 (a : Option Addr) (c : Nat) (l : List Int) (limit : Int) (w : World) (hs : SlOf (Zn .i64) 1 w a l) (hl : l.length ≤ 320) (hgood : ¬ badC l) (hg0 : 1 ≤ limit) (hg1 : limit ≤ 15) (hneed : (needN ((sortC l).length : Int) : Int) ≤ limit) (h0 : (sortC l).length = 1) :
    Calls Try.prog 30 #[.slice a l.length c, .int .i64 limit] w fun e w' => ∃ gl, e = .returned (.tuple #[.slice (some ⟨gl, 0, none⟩) l.length l.length, .int .i64 0]) ∧ Nrow w' gl 5 .u8 l.length (lenS l limit.toNat) ∧ Fr [] w w' := by
  have hl1 : (l.length : Int) ≤ 320 := by omega
  have hok0 : ∀ x ∈ l, 0 ≤ x ∧ x ≤ 1073741824 := fun x hx => by
    unfold badC at hgood
    rcases Int.lt_or_le x 0 with h | h
    · exact absurd (.inr ⟨x, hx, .inl h⟩) hgood
    · rcases Int.lt_or_le 1073741824 x with h' | h'
      · exact absurd (.inr ⟨x, hx, .inr h'⟩) hgood
      · exact ⟨h, h'⟩
  have HX := Lib.hid (And.intro hs (And.intro hl hok0))
  have HSY := Lib.hid (symbols_any a c l w hs hl hok0)
  obtain ⟨n, hn⟩ : ∃ n, (sortC l).length = n := ⟨_, rfl⟩
  rw [hn] at HSY hneed h0
  have hn320 : n ≤ 320 := by have := leafL_len l 0; have := sortC_length l; omega
  have hni : (n : Int) ≤ 320 := by omega
  obtain ⟨nd, hnd⟩ : ∃ nd, needN (n : Int) = nd := ⟨_, rfl⟩
  rw [hnd] at hneed
  have HND := Lib.hid (fun W => refNeeds_any (n : Int) W (by omega) (by omega))
  rw [hnd] at HND
  have HN := Lib.hid (And.intro hn hnd)
  clear hs hgood hl hok0 hn hnd
  go_enter Try.func30, Try.ntmps30
  go_wp2_with fail
  go_loopw [6] (fun v6 wr => ∃ j : Nat, v6 = .int .i64 (j : Int) ∧ j ≤ l.length ∧ wr = w) (fun v6 _ => l.length - (intOf v6).toNat)
  case atStart => exact ⟨0, rfl, Nat.zero_le _, rfl⟩
  case round =>
    obtain ⟨j, rfl, hj, hw⟩ := hrel
    replace hw := hw.symm
    subst hw
    by_cases hjl : j < l.length
    · have hji : (j : Int) < (l.length : Int) := by omega
      obtain ⟨x, hx⟩ : ∃ x, l[j]? = some x := ⟨l[j], List.getElem?_eq_getElem hjl⟩
      obtain ⟨g1, o1, rfl, hb1, hc1⟩ := HX.out.1 (by intro h; rw [h] at hx; simp at hx)
      have c1 := hc1 j x hx 0 (.int .i64 x) rfl
      rw [Nat.mul_one, Nat.add_zero] at c1
      obtain ⟨h0i, h1i⟩ := HX.out.2.2 x (List.mem_of_getElem? hx)
      clear hc1 hx
      go_wp2_with fail
      exact ⟨⟨j + 1, by go_num, by omega, by first | rfl | trivial⟩, by simp [intOf]; omega⟩
    · have hjd : decide (j < l.length) = false := by simp; omega
      clear hj hjl
      go_wp2_with fail
      refine HSY.out.mono ?_
      rintro e w1 ⟨v, F, rfl, hown, hF, hbel⟩
      subst h0
      have HB := Lib.hid hbel
      rcases hown.2 with ⟨_, h⟩ | ⟨gs, cs, cur, rfl, _⟩
      · omega
      have hmk := run_make_bytes w1 l.length (by have := HX.out.2.1; omega)
      obtain ⟨cc, hcc, hc0, _⟩ := refS_is hF (k := 0) (by omega)
      have hfl := (List.getElem?_eq_some_iff.1 hcc).1
      have q0 := own_cell hown 0 (by omega)
      obtain ⟨u, hu⟩ : ∃ u, F 0 = u := ⟨_, rfl⟩
      rw [hu] at q0 hfl
      have hui : (u : Int) < (l.length : Int) := by omega
      have hgs := (hown.lt gs rfl).2
      have hM := made_row w1 l.length
      have d0 := hM.cell u hfl
      have fz := free_of hM u
      have hlens : ∀ s, lenS l limit.toNat s = if s = u then 1 else 0 := fun s => by
        unfold lenS
        have hS : sortC l = [(wt0 l (F 0), F 0)] := by rw [← hF]; rfl
        rw [hS, if_pos (by simp)]
        simp [tot, hu]
      have HE := Lib.hid hlens
      clear hown hF hbel hM hcc hfl hu hlens
      go_wp2_with fail
      refine (HND.out _).mono ?_
      rintro e w2 ⟨rfl, hw⟩
      replace hw := hw.symm
      subst hw
      go_wp2_with fail
      go_ret2
      exact ⟨w1.heap.size, rfl, (made_one w1 l.length u).congr fun s _ => HE.out s, (Fr.of_below HB.out).trans (Fr.alloc [] _ _)⟩
end Go.Proofs.Ytciejmlhdmjajaa

