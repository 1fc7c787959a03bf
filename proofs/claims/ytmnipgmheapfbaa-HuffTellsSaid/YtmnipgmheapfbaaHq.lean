/- How many cells: huff's (*Table).Cells. -/
import Derived.Test.YtmnipgmheapfbaaHp
import Derived.Test.YtmnipgmheapfbaaHg
namespace Go.Proofs.Ytmnipgmheapfbaa
open Go.RowKit
open Go.Maps (Keyed)
set_option linter.unusedVariables false
set_option linter.unusedSimpArgs false

theorem cells_nilT (w : World) : Calls Try.prog 16 #[.pointer none] w fun e w' => e = .returned (.int .i64 0) ∧ Fr [] w w' := by
  go_enter Try.func16, Try.ntmps16
  go_wp2_with fail
  go_ret
  exact ⟨rfl, Fr.refl _ _⟩
set_option maxRecDepth 2000000 in
set_option maxHeartbeats 3200000 in
theorem cells_any (tb : Nat) (l : List Nat) (F hi : Nat) (w : World) (hT : Tb w hi tb l F) (hf : Fine l) (hF : F ≤ 15) :
    Calls Try.prog 16 #[.pointer (some ⟨tb, 0, none⟩)] w fun e w' => e = .returned (.int .i64 (cellsN l F : Int)) ∧ Fr [] w w' := by
  obtain ⟨bc, bm, n, B, h1, h2, h3, h4, h5, h6, h7, h8⟩ := hT
  have c1 := cell_of h1 1
  have c2 := cell_of h1 2
  simp only [List.size_toArray, List.getElem?_toArray, List.getElem?_cons_zero, List.getElem?_cons_succ] at c1 c2
  have hp15 : 2 ^ F ≤ 2 ^ 15 := Nat.pow_le_pow_right (by decide) hF
  obtain ⟨p, hp⟩ : ∃ p, 2 ^ F = p := ⟨_, rfl⟩
  rw [hp] at c1 hp15
  have hpi : (p : Int) ≤ 32768 := by omega
  obtain ⟨W7, cnt, hrg, hRn, hf7, hcnt⟩ := h3.range (t := 69) (e := 68) Try.underlying69
  have HT := Lib.hid (And.intro hf (And.intro hRn (And.intro hf7 (And.intro hcnt (And.intro hp h8)))))
  clear h1 h2 h3 h4 h5 h6 h7 h8 hf hRn hf7 hcnt hp hp15
  go_enter Try.func16, Try.ntmps16
  go_wp2_with fail
  go_loopg [3] cnt (fun c v wr => ∃ (s : Nat → Bool), v = .int .i64 ((p + sumTo (fun i => if s i then 2 ^ lng l F l.length i else 0) (2 ^ F) : Nat) : Int) ∧ Rn Try.prog 74 wr bm w.heap.size n (kf F (fun k => if lng l F l.length k = 0 then none else some (.slice (some ⟨B k, 0, none⟩) (2 ^ lng l F l.length k) (2 ^ lng l F l.length k)))) (fun x => ∃ k, x = rk F k ∧ s k = true) c ∧ (∀ k, s k = true → lng l F l.length k ≠ 0) ∧ Fr [] w wr)
  case atStart =>
    refine ⟨fun _ => false, ?_, ?_, fun k h => by simp at h, HT.out.2.2.1⟩
    · have : sumTo (fun i => if (fun _ => false) i = true then 2 ^ lng l F l.length i else 0) (2 ^ F) = 0 := by
        have := sumTo_le (fun i => if (fun _ => false) i = true then 2 ^ lng l F l.length i else 0) 0 (2 ^ F) (fun k _ => by simp)
        omega
      rw [this]
      rfl
    · have e : (fun x : Value => ∃ k, x = rk F k ∧ false = true) = fun _ => False := by funext x; simp
      rw [e]
      exact HT.out.2.1
  case round =>
    obtain ⟨s, rfl, hRn, hs, hfr⟩ := hrel
    have hsum := sumTo_le (fun i => if s i then 2 ^ lng l F l.length i else 0) 32768 (2 ^ F) (fun k _ => by
      have hl15 := lng_le l F l.length k HT.out.1.le
      have hs15 : 2 ^ lng l F l.length k ≤ 2 ^ 15 := Nat.pow_le_pow_right (by decide) (by omega)
      split
      · omega
      · omega)
    have hpp : 2 ^ F * 32768 ≤ 32768 * 32768 := by rw [HT.out.2.2.2.2.1]; omega
    rcases hRn.next with ⟨hall, hnx⟩ | ⟨key, v, w9, n', hGk, hdk, hnx, hR9, hn', hf9, hen⟩
    · have hd : sumTo (fun i => if s i then 2 ^ lng l F l.length i else 0) (2 ^ F) = sumTo (rowN l F) (2 ^ F) := sumTo_congr fun k _ => by
        unfold rowN
        by_cases h : lng l F l.length k = 0
        · rw [if_pos h]
          cases hsk : s k with
          | false => rfl
          | true => exact absurd h (hs k hsk)
        · rw [if_neg h]
          obtain ⟨j, g1, g2⟩ := hall (rk F k) (by rw [kf_rk, if_neg h]; simp)
          rw [rk_inj g1, g2]
          rfl
      have HE := Lib.hid (And.intro (show p + sumTo (rowN l F) (2 ^ F) = cellsN l F by unfold cellsN; rw [HT.out.2.2.2.2.1]) hfr)
      rw [hd]
      obtain ⟨z, hz⟩ : ∃ z, p + sumTo (rowN l F) (2 ^ F) = z := ⟨_, rfl⟩
      have HE2 := HE.out.1
      rw [hz] at HE2 ⊢
      have HE3 := Lib.hid HE2
      clear hd hall hs hRn hfr hsum hpp HE2 hz
      go_wp2_with fail
      go_ret
      rw [HE3.out]
      exact ⟨rfl, HE.out.2⟩
    · obtain ⟨k, rfl, hmk⟩ := kf_some hGk
      have hlk : lng l F l.length k ≠ 0 := by
        intro e
        rw [if_pos e] at hmk
        cases hmk
      rw [if_neg hlk] at hmk
      obtain rfl := (Option.some.inj hmk).symm
      have hnd : s k = false := by
        cases h : s k with
        | false => rfl
        | true => exact absurd ⟨k, rfl, h⟩ hdk
      have hkk : k < 2 ^ F := by
        rcases Nat.lt_or_ge k (2 ^ F) with h | h
        · exact h
        · exact absurd (lng_no l F l.length k h) hlk
      have hone := sumTo_one (f := fun i => 2 ^ lng l F l.length i) hkk hnd
      obtain ⟨q, hq⟩ : ∃ q, 2 ^ lng l F l.length k = q := ⟨_, rfl⟩
      have hl15 := lng_le l F l.length k HT.out.1.le
      have hs15 : 2 ^ lng l F l.length k ≤ 2 ^ 15 := Nat.pow_le_pow_right (by decide) (by omega)
      have hqi : (q : Int) ≤ 32768 := by omega
      obtain ⟨z, hz⟩ : ∃ z, p + sumTo (fun i => if s i then 2 ^ lng l F l.length i else 0) (2 ^ F) = z := ⟨_, rfl⟩
      have hzi : (z : Int) ≤ 2000000000 := by omega
      have HK := Lib.hid (And.intro hR9 (And.intro hn' (And.intro (hf9.out hfr.below (by simp)) (And.intro hs (And.intro hlk (And.intro hone (And.intro hz hq)))))))
      rw [hq] at hnx hen
      unfold rk at hnx hen
      rw [hz]
      clear hRn hs hfr hsum hpp hR9 hf9 hdk hGk hmk hlk hnd hkk hone hz hl15 hs15 hn' hq
      go_wp2_with fail
      go_roundg n'
      case measure => exact HK.out.2.1
      case rel =>
        obtain ⟨hR9, hn', hfr, hs, hlk, hone, hz, hq⟩ := HK.out
        refine ⟨fun i => s i || decide (i = k), ?_, ?_, ?_, Fr.of_below hfr⟩
        · rw [hone, ← Nat.add_assoc, hz, hq]; go_num
        · have e : (fun x : Value => (∃ j, x = rk F j ∧ s j = true) ∨ x = rk F k) = fun x => ∃ j, x = rk F j ∧ (s j || decide (j = k)) = true := by
            funext x
            apply propext
            constructor
            · rintro (⟨j, h1, h2⟩ | h)
              · exact ⟨j, h1, by rw [h2]; rfl⟩
              · exact ⟨k, h, by simp⟩
            · rintro ⟨j, h1, h2⟩
              rw [Bool.or_eq_true, decide_eq_true_eq] at h2
              rcases h2 with h2 | h2
              · exact .inl ⟨j, h1, h2⟩
              · subst h2; exact .inr h1
          rw [← e]
          exact hR9
        · intro j hj
          rw [Bool.or_eq_true, decide_eq_true_eq] at hj
          rcases hj with hj | rfl
          · exact hs j hj
          · exact hlk
end Go.Proofs.Ytmnipgmheapfbaa

