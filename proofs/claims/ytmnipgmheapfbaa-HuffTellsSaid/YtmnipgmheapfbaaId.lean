/- The document's kinds of lengths, and its codes: platenref05's Kind and Codes. -/
import Derived.Test.YtmnipgmheapfbaaHj
import Derived.Test.YtmnipgmheapfbaaHf
namespace Go.Proofs.Ytmnipgmheapfbaa
open Go.RowKit
set_option linter.unusedVariables false
set_option linter.unusedSimpArgs false

/-- How many there are, and the last of them. -/
def nzc : List Nat → Nat
  | [] => 0
  | x :: l => (if x = 0 then 0 else 1) + nzc l
def lastL (l : List Nat) : Nat := l.foldl (fun a x => if x = 0 then a else x) 0
theorem nzc_append (a b : List Nat) : nzc (a ++ b) = nzc a + nzc b := by
  induction a with
  | nil => simp [nzc]
  | cons x a ih => simp only [List.cons_append, nzc, ih]; omega
theorem wsum_append (a b : List Nat) : wsum (a ++ b) = wsum a + wsum b := by
  induction a with
  | nil => simp [wsum]
  | cons x a ih => simp only [List.cons_append, wsum, ih]; omega
theorem take_last {l : List Nat} {i x : Nat} (h : l[i]? = some x) : l.take (i + 1) = l.take i ++ [x] := by
  obtain ⟨hi, he⟩ := List.getElem?_eq_some_iff.1 h
  rw [List.take_succ_eq_append_getElem hi, he]
theorem nzc_take {l : List Nat} {i x : Nat} (h : l[i]? = some x) : nzc (l.take (i + 1)) = nzc (l.take i) + (if x = 0 then 0 else 1) := by
  rw [take_last h, nzc_append]; simp [nzc]
theorem wsum_take {l : List Nat} {i x : Nat} (h : l[i]? = some x) : wsum (l.take (i + 1)) = wsum (l.take i) + (if x = 0 then 0 else 2 ^ (15 - x)) := by
  rw [take_last h, wsum_append]; simp [wsum]
theorem last_take {l : List Nat} {i x : Nat} (h : l[i]? = some x) : lastL (l.take (i + 1)) = if x = 0 then lastL (l.take i) else x := by
  unfold lastL; rw [take_last h, List.foldl_append]; rfl
theorem nzc_all (l : List Nat) (h : ∀ x ∈ l, x ≤ 15) : nzc l = allN l 15 := by
  induction l with
  | nil => rfl
  | cons x l ih =>
    rw [allN_cons, nzc, ih (fun y hy => h y (by simp [hy]))]
    have := h x (by simp)
    by_cases hx : x = 0
    · rw [if_pos hx, if_neg (by omega)]; omega
    · rw [if_neg hx, if_pos (by omega)]; omega
theorem nzc_le (l : List Nat) : nzc l ≤ l.length := by
  induction l with
  | nil => simp [nzc]
  | cons x l ih => simp only [nzc, List.length_cons]; split <;> omega
theorem wsum_le (l : List Nat) : wsum l ≤ l.length * 32768 := by
  induction l with
  | nil => simp [wsum]
  | cons x l ih =>
    simp only [wsum, List.length_cons]
    have : 2 ^ (15 - x) ≤ 2 ^ 15 := Nat.pow_le_pow_right (by decide) (by omega)
    split <;> omega
theorem last_one (l : List Nat) (h : nzc l = 1) : lastL l = 1 ↔ cnt l 1 = 1 := by
  have hz : ∀ (l : List Nat) (a : Nat), nzc l = 0 → l.foldl (fun a x => if x = 0 then a else x) a = a ∧ cnt l 1 = 0 := by
    intro l
    induction l with
    | nil => intro a _; exact ⟨rfl, rfl⟩
    | cons x l ih =>
      intro a ha
      simp only [nzc] at ha
      have hx : x = 0 := by
        by_cases hx : x = 0
        · exact hx
        · rw [if_neg hx] at ha; omega
      subst hx
      obtain ⟨h1, h2⟩ := ih a (by simpa using ha)
      simp only [List.foldl_cons, if_true, cnt]
      exact ⟨h1, by rw [h2]; rfl⟩
  have hg : ∀ (l : List Nat) (a : Nat), nzc l = 1 → (l.foldl (fun a x => if x = 0 then a else x) a = 1 ↔ cnt l 1 = 1) := by
    intro l
    induction l with
    | nil => intro a ha; simp [nzc] at ha
    | cons x l ih =>
      intro a ha
      simp only [nzc] at ha
      by_cases hx : x = 0
      · subst hx
        simp only [List.foldl_cons, if_true, cnt]
        rw [ih a (by simpa using ha), if_neg (by decide), Nat.zero_add]
      · rw [if_neg hx] at ha
        obtain ⟨h1, h2⟩ := hz l x (by omega)
        simp only [List.foldl_cons, if_neg hx, cnt]
        rw [h1, h2]
        by_cases h1x : x = 1
        · simp [h1x]
        · simp [h1x]
  exact hg l 0 h

set_option maxRecDepth 2000000 in
set_option maxHeartbeats 3200000 in
theorem rkind_any (a : Option Addr) (c : Nat) (l : List Nat) (w : World) (hs : SlOf U8 1 w a l) (hl : l.length ≤ 9223372036854775807) (h8 : ∀ x ∈ l, x < 256) :
    Calls Try.prog 32 #[.slice a l.length c] w fun e w' => e = .returned (.int .u8 (kindN l : Int)) ∧ Fr [] w w' := by
  have HS := Lib.hid hs
  have H8 := Lib.hid h8
  have i0 : (l.length : Int) ≤ 9223372036854775807 := by omega
  clear hs h8 hl
  by_cases hbig : 320 < l.length
  · have HK := Lib.hid (show kindN l = 5 by unfold kindN badL; rw [decide_eq_true hbig]; rfl)
    have i1 : (320 : Int) < (l.length : Int) := by omega
    clear hbig
    go_enter Try.func32, Try.ntmps32
    go_wp2_with fail
    go_ret
    rw [HK.out]
    exact ⟨rfl, Fr.refl _ _⟩
  · have i1 : (l.length : Int) ≤ 320 := by omega
    go_enter Try.func32, Try.ntmps32
    go_wp2_with fail
    go_loop [3, 4, 5, 6] (fun wt_ al la i => ∃ j : Nat, j ≤ l.length ∧ i = .int .i64 (j : Int) ∧ wt_ = .int .i64 (wsum (l.take j) : Int) ∧ al = .int .i64 (nzc (l.take j) : Int) ∧ la = .int .u8 (lastL (l.take j) : Int) ∧ ∀ x ∈ l.take j, x ≤ 15) (fun _ _ _ i => l.length - (intOf i).toNat)
    case atStart => exact ⟨0, Nat.zero_le _, rfl, rfl, rfl, rfl, by simp⟩
    case round =>
      obtain ⟨j, hj, rfl, rfl, rfl, rfl, h15⟩ := hrel
      have hwl := wsum_le (l.take j)
      have hnl := nzc_le (l.take j)
      rw [List.length_take, Nat.min_eq_left hj] at hwl hnl
      by_cases hjl : j < l.length
      · obtain ⟨x, hx⟩ : ∃ x, l[j]? = some x := ⟨l[j], List.getElem?_eq_getElem hjl⟩
        obtain ⟨b, o, rfl, hbl, hcell⟩ := HS.out (by intro h; rw [h] at hx; simp at hx)
        have d0 := hcell j x hx 0 (.int .u8 (x : Int)) rfl
        rw [Nat.mul_one, Nat.add_zero] at d0
        have hx8 := H8.out x (List.mem_of_getElem? hx)
        have hxi : (x : Int) ≤ 255 := by omega
        have hji : (j : Int) < (l.length : Int) := by omega
        have hw1 := wsum_take hx
        have hn1 := nzc_take hx
        have hl1 := last_take hx
        obtain ⟨W, hW⟩ : ∃ W, wsum (l.take j) = W := ⟨_, rfl⟩
        obtain ⟨Nn, hN⟩ : ∃ N, nzc (l.take j) = N := ⟨_, rfl⟩
        obtain ⟨La, hL⟩ : ∃ L, lastL (l.take j) = L := ⟨_, rfl⟩
        rw [hW] at hwl hw1 ⊢
        rw [hN] at hnl hn1 ⊢
        rw [hL] at hl1 ⊢
        have hWi : (W : Int) ≤ 10485760 := by omega
        have hNi : (Nn : Int) ≤ 320 := by omega
        by_cases h15x : 15 < x
        · have HK := Lib.hid (show kindN l = 5 by
            unfold kindN badL
            rw [show (l.any fun x => decide (15 < x)) = true from List.any_eq_true.2 ⟨x, List.mem_of_getElem? hx, decide_eq_true h15x⟩]
            simp)
          have hxj : (15 : Int) < (x : Int) := by omega
          clear hw1 hn1 hl1 hW hN hL hwl hnl h15x hx8 hcell h15 hx hbl
          go_wp2_with fail
          go_ret
          rw [HK.out]
          exact ⟨rfl, Fr.refl _ _⟩
        · have hxj : (x : Int) ≤ 15 := by omega
          have HM := Lib.hid (fun y (hy : y ∈ l.take (j + 1)) => by
            rw [take_last hx] at hy
            rcases List.mem_append.1 hy with hy | hy
            · exact h15 y hy
            · simp at hy; omega : ∀ y ∈ l.take (j + 1), y ≤ 15)
          by_cases hx0 : x = 0
          · subst hx0
            rw [if_pos rfl] at hw1 hn1 hl1
            have HR := Lib.hid (And.intro hw1 (And.intro hn1 hl1))
            clear hw1 hn1 hl1 hW hN hL hwl hnl h15x hx8 hcell h15 hx hbl
            go_wp2_with fail
            go_round
            case rel => exact ⟨j + 1, by omega, by go_num, by rw [HR.out.1]; rfl, by rw [HR.out.2.1]; rfl, by rw [HR.out.2.2], HM.out⟩
            case measure => simp [intOf]; omega
          · rw [if_neg hx0] at hw1 hn1 hl1
            have HR := Lib.hid (And.intro hw1 (And.intro hn1 hl1))
            have hx1 : 1 ≤ (x : Int) := by omega
            clear hw1 hn1 hl1 hW hN hL hwl hnl h15x hx8 hcell h15 hx hbl
            go_wp2_with fail
            go_loop [7, 8] (fun v k => ∃ d : Nat, d ≤ 15 - x ∧ k = .int .i64 ((x + d : Nat) : Int) ∧ v = .int .i64 ((2 ^ d : Nat) : Int)) (fun _ k => 15 - (intOf k).toNat)
            case atStart => exact ⟨0, Nat.zero_le _, rfl, rfl⟩
            case round =>
              obtain ⟨d, hd, rfl, rfl⟩ := hrel
              have hp15 : 2 ^ d ≤ 2 ^ 15 := Nat.pow_le_pow_right (by decide) (by omega)
              have hps : 2 ^ (d + 1) = 2 * 2 ^ d := Nat.pow_succ'
              obtain ⟨p, hp⟩ : ∃ p, 2 ^ d = p := ⟨_, rfl⟩
              obtain ⟨q, hq⟩ : ∃ q, x + d = q := ⟨_, rfl⟩
              rw [hp] at hp15 hps ⊢
              rw [hq]
              have hpi : (p : Int) ≤ 32768 := by omega
              by_cases hq15 : q < 15
              · have hqi : (q : Int) < 15 := by omega
                have HP := Lib.hid (And.intro hps hq)
                clear hps hp hp15 hq hd
                go_wp2_with fail
                go_round
                case rel =>
                  refine ⟨d + 1, by have := HP.out.2; omega, ?_, ?_⟩
                  · rw [← Nat.add_assoc, HP.out.2]; go_num
                  · rw [HP.out.1]; go_num
                case measure => simp [intOf]; omega
              · have hqi : (15 : Int) ≤ (q : Int) := by omega
                have hde : d = 15 - x := by omega
                have HP := Lib.hid (show 2 ^ (15 - x) = p by rw [← hde]; exact hp)
                clear hps hp hp15 hq hd hde
                go_wp2_with fail
                go_round
                case rel => exact ⟨j + 1, by omega, by go_num, by rw [HR.out.1, HP.out]; go_num, by rw [HR.out.2.1]; go_num, by rw [HR.out.2.2], HM.out⟩
                case measure => simp [intOf]; omega
      · have hje : j = l.length := by omega
        subst hje
        rw [List.take_length] at hwl hnl h15 ⊢
        have hbad : badL l = false := by
          unfold badL
          rw [Bool.or_eq_false_iff, decide_eq_false_iff_not]
          exact ⟨hbig, List.any_eq_false.2 fun x hx => by have := h15 x hx; simp; omega⟩
        have hk1 : kindN l = if allN l 15 = 0 then 0 else if 32768 < wt l 15 then 4 else if wt l 15 = 32768 then 2 else if allN l 15 = 1 ∧ cnt l 1 = 1 then 1 else 3 := by unfold kindN; rw [hbad]; rfl
        rw [← wsum_eq l h15, ← nzc_all l h15] at hk1
        have hlo := last_one l
        obtain ⟨z, hz⟩ : ∃ z, wsum l = z := ⟨_, rfl⟩
        obtain ⟨y, hy⟩ : ∃ y, nzc l = y := ⟨_, rfl⟩
        obtain ⟨q, hq⟩ : ∃ q, lastL l = q := ⟨_, rfl⟩
        rw [hz] at hk1 hwl ⊢
        rw [hy] at hk1 hnl hlo ⊢
        rw [hq] at hlo ⊢
        have hzi : (z : Int) ≤ 10485760 := by omega
        have hyi : (y : Int) ≤ 320 := by omega
        clear hz hy hq hwl hnl h15 hbad hbig
        by_cases g1 : y = 0
        · subst g1
          have HKK := Lib.hid (show kindN l = 0 by rw [hk1]; rfl)
          clear hk1 hlo
          go_wp2_with fail
          go_ret
          rw [HKK.out]
          exact ⟨rfl, Fr.refl _ _⟩
        · have hy0 : ¬ (y : Int) = 0 := by omega
          rw [if_neg g1] at hk1
          by_cases g2 : 32768 < z
          · have HKK := Lib.hid (show kindN l = 4 by rw [hk1, if_pos g2])
            have hz1 : (32769 : Int) ≤ (z : Int) := by omega
            clear hk1 hlo g1 g2
            go_wp2_with fail
            go_ret
            rw [HKK.out]
            exact ⟨rfl, Fr.refl _ _⟩
          · rw [if_neg g2] at hk1
            by_cases g3 : z = 32768
            · subst g3
              have HKK := Lib.hid (show kindN l = 2 by rw [hk1, if_pos rfl])
              clear hk1 hlo g1 g2
              go_wp2_with fail
              go_ret
              rw [HKK.out]
              exact ⟨rfl, Fr.refl _ _⟩
            · have hz1 : (z : Int) ≤ 32767 := by omega
              rw [if_neg g3] at hk1
              by_cases g4 : y = 1
              · subst g4
                by_cases g5 : q = 1
                · subst g5
                  have HKK := Lib.hid (show kindN l = 1 by rw [hk1, if_pos ⟨rfl, (hlo rfl).1 rfl⟩])
                  clear hk1 hlo g1 g2 g3
                  go_wp2_with fail
                  go_ret
                  rw [HKK.out]
                  exact ⟨rfl, Fr.refl _ _⟩
                · have HKK := Lib.hid (show kindN l = 3 by rw [hk1, if_neg (fun e => g5 ((hlo rfl).2 e.2))])
                  have g6 : ¬ (q : Int) = 1 := by omega
                  clear hk1 hlo g1 g2 g3 g5
                  go_wp2_with fail
                  go_ret
                  rw [HKK.out]
                  exact ⟨rfl, Fr.refl _ _⟩
              · have HKK := Lib.hid (show kindN l = 3 by rw [hk1, if_neg (fun e => g4 e.1)])
                have g6 : ¬ (y : Int) = 1 := by omega
                clear hk1 hlo g1 g2 g3 g4
                go_wp2_with fail
                go_ret
                rw [HKK.out]
                exact ⟨rfl, Fr.refl _ _⟩
end Go.Proofs.Ytmnipgmheapfbaa

