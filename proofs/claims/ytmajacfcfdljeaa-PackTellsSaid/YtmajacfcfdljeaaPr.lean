/- platenref06's Best: its walk. -/
import Derived.Test.YtmajacfcfdljeaaPq
import Derived.Test.YtmajacfcfdljeaaPo
namespace Go.Proofs.Ytmajacfcfdljeaa
open Go.RowKit
set_option linter.unusedVariables false
set_option linter.unusedSimpArgs false

/-- -1: there is none. -/
def encO : Option Nat → Int
  | none => -1
  | some x => (x : Int)
theorem dotN_le (A B : Nat) : ∀ (d l : List Nat), (∀ x ∈ d, x ≤ A) → (∀ x ∈ l, x ≤ B) → dotN d l ≤ l.length * (A * B)
  | [], l, _, _ => by simp [dotN]
  | a :: d, [], _, _ => by simp [dotN]
  | a :: d, b :: l, h, k => by
    have ih := dotN_le A B d l (fun x hx => h x (by simp [hx])) (fun x hx => k x (by simp [hx]))
    have : a * b ≤ A * B := Nat.mul_le_mul (h a (by simp)) (k b (by simp))
    simp only [dotN, List.length_cons, Nat.add_mul]; omega
theorem best_bound {limit f size codes x : Nat} {l : List Nat} (hf : size + f = limit + 1) (hl : l.length ≤ 10) (hb : ∀ y ∈ l, y ≤ 65536) (hlim : limit ≤ 10) (h : bestO f l size codes = some x) : x ≤ 6553600 := by
  obtain ⟨d, _, d2, _, rfl⟩ := best_is limit f l size codes x hf h
  have := dotN_le 10 65536 d l (fun y hy => by have := d2 y hy; omega) hb
  have : l.length * (10 * 65536) ≤ 10 * (10 * 65536) := Nat.mul_le_mul_right _ hl
  omega
theorem sum_take_le (B : Nat) : ∀ (l : List Nat) (j : Nat), (∀ x ∈ l, x ≤ B) → (l.take j).sum ≤ l.length * B
  | [], j, _ => by simp
  | b :: l, 0, _ => by simp
  | b :: l, j + 1, h => by
    have := sum_take_le B l j (fun x hx => h x (by simp [hx]))
    have := h b (by simp)
    rw [List.take_succ_cons, List.sum_cons, List.length_cons, Nat.add_mul]; omega
/-- What holds at the head of a round of Best's loop. -/
def BestR (g : Nat → Option Nat) (l : List Nat) (size codes : Nat) (w : World) (v12 v13 v14 : Value) (wr : World) : Prop :=
  ∃ j s b, v12 = .int .i64 b ∧ encO (minTo g j) = b ∧ v13 = .int .i64 ((s : Nat) : Int) ∧ s = size * (l.take j).sum ∧ v14 = .int .i64 ((j : Nat) : Int) ∧ j ≤ codes + 1 ∧ wr = w
set_option maxRecDepth 2000000 in
set_option maxHeartbeats 6400000 in
theorem best_any (limit : Nat) (hlim : limit ≤ 10) (g n cap : Nat) (F : Nat → Nat) (hn : n ≤ 10) (hF : ∀ i, F i ≤ 65536) (w : World) (hc : ∀ i, i < n → w.cell? ⟨g, i, none⟩ = some (.int .i64 (F i : Int))) :
    ∀ (f at_ size codes : Nat), size + f = limit + 1 → at_ ≤ n → codes ≤ 40 →
    Calls Try.prog 14 #[.slice (some ⟨g, 0, none⟩) n cap, .int .i64 (at_ : Int), .int .i64 (size : Int), .int .i64 (codes : Int), .int .i64 (limit : Int)] w fun e w' => e = .returned (.int .i64 (encO (bestO f (((List.range n).map F).drop at_) size codes))) ∧ w' = w := by
  intro f
  induction f with
  | zero =>
    intro at_ size codes hf hat hco
    obtain ⟨L, hL⟩ : ∃ L, n - at_ = L := ⟨_, rfl⟩
    have eL : (n : Int) - (at_ : Int) = (L : Int) := by omega
    have h1 : (n : Int) ≤ 10 := by omega
    have h2 : (at_ : Int) ≤ (n : Int) := by omega
    have h3 : (codes : Int) ≤ 40 := by omega
    have h4 : (limit : Int) < (size : Int) := by omega
    have hll : (((List.range n).map F).drop at_).length = L := by simp [hL]
    by_cases hz : L = 0 ∧ codes = 0
    · obtain ⟨rfl, rfl⟩ := hz
      have HR := Lib.hid (show encO (bestO 0 (((List.range n).map F).drop at_) size 0) = 0 by rw [bestO, if_pos ⟨hll, rfl⟩]; rfl)
      clear hll hf hat hco hc hF hL
      go_enter Try.func14, Try.ntmps14
      go_wp2_with fail
      go_ret
      exact ⟨by rw [HR.out]; rfl, rfl⟩
    · have HR := Lib.hid (show encO (bestO 0 (((List.range n).map F).drop at_) size codes) = -1 by rw [bestO, if_neg (by rw [hll]; exact hz)]; rfl)
      clear hll hf hat hco hc hF
      by_cases hL0 : L = 0
      · have hc0 : ((codes : Int) == 0) = false := by rw [beq_eq_false_iff_ne]; omega
        have hl0 : ((L : Int) == 0) = true := by rw [beq_iff_eq]; omega
        have hlt : L < codes := by omega
        clear hz hL0
        go_enter Try.func14, Try.ntmps14
        go_wp2_with fail
        go_ret
        exact ⟨by rw [HR.out]; rfl, rfl⟩
      · have hl0 : ((L : Int) == 0) = false := by rw [beq_eq_false_iff_ne]; omega
        clear hz hL0
        by_cases ha : L < codes
        · go_enter Try.func14, Try.ntmps14
          go_wp2_with fail
          go_ret
          exact ⟨by rw [HR.out]; rfl, rfl⟩
        · have had : decide (L < codes) = false := by simp; omega
          by_cases hb : codes = 0
          · have hc0 : ((codes : Int) == 0) = true := by rw [beq_iff_eq]; omega
            clear hb ha
            go_enter Try.func14, Try.ntmps14
            go_wp2_with fail
            go_ret
            exact ⟨by rw [HR.out]; rfl, rfl⟩
          · have hc0 : ((codes : Int) == 0) = false := by rw [beq_eq_false_iff_ne]; omega
            have h5 : limit < size := by omega
            clear hb ha
            go_enter Try.func14, Try.ntmps14
            go_wp2_with fail
            go_ret
            exact ⟨by rw [HR.out]; rfl, rfl⟩
  | succ f ih =>
    intro at_ size codes hf hat hco
    obtain ⟨L, hL⟩ : ∃ L, n - at_ = L := ⟨_, rfl⟩
    have eL : (n : Int) - (at_ : Int) = (L : Int) := by omega
    have h1 : (n : Int) ≤ 10 := by omega
    have h2 : (at_ : Int) ≤ (n : Int) := by omega
    have h3 : (codes : Int) ≤ 40 := by omega
    have h4 : (size : Int) ≤ (limit : Int) := by omega
    have h4d : decide (limit < size) = false := by simp; omega
    have h5 : (limit : Int) ≤ 10 := by omega
    obtain ⟨l, hl⟩ : ∃ l, ((List.range n).map F).drop at_ = l := ⟨_, rfl⟩
    have hll : l.length = L := by rw [← hl]; simp [hL]
    rw [hl]
    by_cases hz : L = 0 ∧ codes = 0
    · obtain ⟨rfl, rfl⟩ := hz
      have HR := Lib.hid (show encO (bestO (f + 1) l size 0) = 0 by rw [bestO, if_pos ⟨hll, rfl⟩]; rfl)
      clear hll hf hat hco hc hF hL hl ih
      go_enter Try.func14, Try.ntmps14
      go_wp2_with fail
      go_ret
      exact ⟨by rw [HR.out]; rfl, rfl⟩
    · by_cases hbad : L < codes ∨ codes = 0
      · have HR := Lib.hid (show encO (bestO (f + 1) l size codes) = -1 by rw [bestO, if_neg (by rw [hll]; exact hz), if_pos (by rw [hll]; exact hbad)]; rfl)
        clear hll hf hat hco hc hF hl ih
        by_cases hL0 : L = 0
        · have hc0 : ((codes : Int) == 0) = false := by rw [beq_eq_false_iff_ne]; omega
          have hl0 : ((L : Int) == 0) = true := by rw [beq_iff_eq]; omega
          have hlt : L < codes := by omega
          clear hz hL0 hbad
          go_enter Try.func14, Try.ntmps14
          go_wp2_with fail
          go_ret
          exact ⟨by rw [HR.out]; rfl, rfl⟩
        · have hl0 : ((L : Int) == 0) = false := by rw [beq_eq_false_iff_ne]; omega
          clear hz hL0
          by_cases ha : L < codes
          · clear hbad
            go_enter Try.func14, Try.ntmps14
            go_wp2_with fail
            go_ret
            exact ⟨by rw [HR.out]; rfl, rfl⟩
          · have had : decide (L < codes) = false := by simp; omega
            have hc0 : ((codes : Int) == 0) = true := by rw [beq_iff_eq]; omega
            clear hbad ha
            go_enter Try.func14, Try.ntmps14
            go_wp2_with fail
            go_ret
            exact ⟨by rw [HR.out]; rfl, rfl⟩
      · obtain ⟨G, hG⟩ : ∃ G : Nat → Option Nat, G = fun j => (bestO f (l.drop j) (size + 1) (2 * (codes - j))).map (· + size * (l.take j).sum) := ⟨_, rfl⟩
        have HR := Lib.hid (show encO (bestO (f + 1) l size codes) = encO (minTo G (codes + 1)) by rw [bestO, if_neg (by rw [hll]; exact hz), if_neg (by rw [hll]; exact hbad), hG])
        have hL0 : L ≠ 0 := by omega
        have hl0 : ((L : Int) == 0) = false := by rw [beq_eq_false_iff_ne]; omega
        have had : decide (L < codes) = false := by simp; omega
        have hc0 : ((codes : Int) == 0) = false := by rw [beq_eq_false_iff_ne]; omega
        have hcl : (codes : Int) ≤ (L : Int) := by omega
        have HI := Lib.hid ih
        have hlb : ∀ y ∈ l, y ≤ 65536 := fun y hy => by
          rw [← hl] at hy
          obtain ⟨i, _, rfl⟩ := List.mem_map.1 (List.mem_of_mem_drop hy)
          exact hF i
        have HX := Lib.hid (And.intro hf (And.intro hat (And.intro hl (And.intro hll (And.intro hL (And.intro hG (And.intro hlb hc)))))))
        clear hf hat hco hc hl hll hL hG hlb hz hbad hL0 ih
        go_enter Try.func14, Try.ntmps14
        go_wp2_with fail
        go_loopw [12, 13, 14, 15] (fun v12 v13 v14 _ wr => BestR G l size codes w v12 v13 v14 wr) (fun _ _ v14 _ _ => codes + 1 - (intOf v14).toNat)
        case atStart => exact ⟨0, 0, -1, rfl, rfl, rfl, by simp, rfl, Nat.zero_le _, rfl⟩
        case round =>
          obtain ⟨j, s, b, rfl, hb, rfl, hs, rfl, hj, hw⟩ := hrel
          replace hw := hw.symm
          subst hw
          by_cases hjc : j ≤ codes
          · obtain ⟨hf, hat, hl, hll, hL, hG, hlb, hc⟩ := HX.out
            have hji : (j : Int) ≤ (codes : Int) := by omega
            obtain ⟨a2, ha2⟩ : ∃ a2, at_ + j = a2 := ⟨_, rfl⟩
            have ea2 : (at_ : Int) + (j : Int) = (a2 : Int) := by omega
            obtain ⟨s2, hs2⟩ : ∃ s2, size + 1 = s2 := ⟨_, rfl⟩
            have es2 : (size : Int) + 1 = (s2 : Int) := by omega
            obtain ⟨c2, hc2⟩ : ∃ c2, codes - j = c2 := ⟨_, rfl⟩
            have ec2 : (codes : Int) - (j : Int) = (c2 : Int) := by omega
            obtain ⟨c3, hc3⟩ : ∃ c3, 2 * c2 = c3 := ⟨_, rfl⟩
            have ec3 : (2 : Int) * (c2 : Int) = (c3 : Int) := by omega
            have hc2b : (c2 : Int) ≤ 10 := by omega
            have ha2b : (a2 : Int) ≤ (n : Int) := by omega
            have hdrop : l.drop j = ((List.range n).map F).drop a2 := by rw [← hl, List.drop_drop, ← ha2]
            have HC := Lib.hid (HI.out a2 s2 c3 (by omega) (by omega) (by omega))
            obtain ⟨r, hr⟩ : ∃ r, bestO f (((List.range n).map F).drop a2) s2 c3 = r := ⟨_, rfl⟩
            rw [hr] at HC
            have hGj : G j = r.map (· + s) := by rw [hG]; simp only; rw [hdrop, hs2, hc2, hc3, hr, hs]
            have hsb : s ≤ 6553600 := by
              rw [hs]
              have h1 := sum_take_le 65536 l j hlb
              have h2 : l.length * 65536 ≤ 10 * 65536 := Nat.mul_le_mul_right _ (by omega)
              have h3 : size * (l.take j).sum ≤ 10 * (10 * 65536) := Nat.mul_le_mul (by omega) (by omega)
              omega
            have hsi : (s : Int) ≤ 6553600 := by omega
            have hyr : ∀ y, r = some y → y ≤ 6553600 := fun y hy => by
              rw [hy] at hr
              exact best_bound (limit := limit) (size := s2) (f := f) (by omega) (by rw [List.length_drop]; simp; omega) (fun z hz => by
                obtain ⟨i, _, rfl⟩ := List.mem_map.1 (List.mem_of_mem_drop hz)
                exact hF i) hlim hr
            have hstep : ∃ s' : Nat, s' = size * (l.take (j + 1)).sum ∧ (a2 < n ∧ (∃ u : Nat, size * F a2 = u ∧ s + u = s' ∧ u ≤ 655360 ∧ w.cell? ⟨g, a2, none⟩ = some (.int .i64 (F a2 : Int))) ∨ ¬ a2 < n ∧ s = s') := by
              refine ⟨_, rfl, ?_⟩
              by_cases h : a2 < n
              · refine .inl ⟨h, _, rfl, ?_, ?_, hc a2 h⟩
                · have hlj : l[j]? = some (F a2) := by
                    rw [← hl, List.getElem?_drop, ha2, List.getElem?_map, List.getElem?_range h]; rfl
                  rw [List.take_add_one, hlj, Option.toList_some, List.sum_append_nat, hs, ← Nat.mul_add]; simp
                · have : size * F a2 ≤ 10 * 65536 := Nat.mul_le_mul (by omega) (hF a2)
                  omega
              · refine .inr ⟨h, ?_⟩
                rw [hs, List.take_of_length_le (by omega), List.take_of_length_le (by omega)]
            obtain ⟨s', hs', hcase⟩ := hstep
            have hFa := hF a2
            obtain ⟨v, hv⟩ : ∃ v, F a2 = v := ⟨_, rfl⟩
            rw [hv] at hcase hFa
            have hvb : (v : Int) ≤ 65536 := by omega
            have hbs : ∃ b', encO (minTo G (j + 1)) = b' ∧ (r = none ∧ b' = b ∨ (∃ y, r = some y ∧ y ≤ 6553600 ∧ ((b = -1 ∧ b' = ((y + s : Nat) : Int)) ∨ ∃ z : Nat, b = (z : Int) ∧ ((y + s < z ∧ b' = ((y + s : Nat) : Int)) ∨ (¬ y + s < z ∧ b' = b))))) := by
              refine ⟨_, rfl, ?_⟩
              rw [minTo, hGj]
              cases r with
              | none => exact .inl ⟨rfl, hb⟩
              | some y =>
                refine .inr ⟨y, rfl, hyr y rfl, ?_⟩
                cases hm : minTo G j with
                | none => rw [hm] at hb; exact .inl ⟨hb.symm, rfl⟩
                | some z =>
                  rw [hm] at hb
                  refine .inr ⟨z, hb.symm, ?_⟩
                  simp only [Option.map_some, minO]
                  by_cases hyz : y + s < z
                  · rw [if_pos hyz]; exact .inl ⟨hyz, rfl⟩
                  · rw [if_neg hyz]; exact .inr ⟨hyz, hb⟩
            obtain ⟨b', hb', hbc⟩ := hbs
            have HB := Lib.hid (And.intro hb' hs')
            clear hf hat hl hll hL hG hlb hc hb hs hj ha2 hs2 hc2 hc3 hdrop hr hGj hsb hyr hs' hv hb' hFa
            rcases hcase with ⟨han, u, hu, hsu, hub, hcell⟩ | ⟨han, hss⟩
            · have hani : (a2 : Int) < (n : Int) := by omega
              have ev : (size : Int) * (v : Int) = (u : Int) := by rw [← hu]; exact (Int.natCast_mul size v).symm
              have hubi : (u : Int) ≤ 655360 := by omega
              have esu : (s : Int) + (u : Int) = (s' : Int) := by omega
              clear hu hub hsu han
              rcases hbc with ⟨rfl, hbb⟩ | ⟨y, rfl, hyb, ⟨rfl, hbb⟩ | ⟨z, rfl, ⟨hyz, hbb⟩ | ⟨hyz, hbb⟩⟩⟩
              · have HBB := Lib.hid hbb
                clear hbb
                have HC := Lib.hid (show Calls Try.prog 14 #[.slice (some ⟨g, 0, none⟩) n cap, .int .i64 (a2 : Int), .int .i64 (s2 : Int), .int .i64 (c3 : Int), .int .i64 (limit : Int)] w fun e w' => e = .returned (.int .i64 (-1)) ∧ w' = w from HC.out)
                go_wp2_with fail
                refine HC.out.mono ?_
                rintro e w1 ⟨rfl, hw⟩
                replace hw := hw.symm
                subst hw
                go_wp2_with fail
                go_roundw
                case rel => exact ⟨j + 1, s', b', by first | rfl | (rw [HBB.out]; done) | (rw [HBB.out]; rfl) | (rw [HBB.out]; go_num), HB.out.1, by first | rfl | go_num | (rw [HSS.out]), HB.out.2, by go_num, by omega, rfl⟩
                case measure => simp [intOf]; omega
              · have hyi : (y : Int) ≤ 6553600 := by omega
                have hy0 : 0 ≤ (y : Int) := by omega
                have HBB := Lib.hid hbb
                clear hbb hyb
                have HC := Lib.hid (show Calls Try.prog 14 #[.slice (some ⟨g, 0, none⟩) n cap, .int .i64 (a2 : Int), .int .i64 (s2 : Int), .int .i64 (c3 : Int), .int .i64 (limit : Int)] w fun e w' => e = .returned (.int .i64 (y : Int)) ∧ w' = w from HC.out)
                go_wp2_with fail
                refine HC.out.mono ?_
                rintro e w1 ⟨rfl, hw⟩
                replace hw := hw.symm
                subst hw
                go_wp2_with fail
                go_roundw
                case rel => exact ⟨j + 1, s', b', by first | rfl | (rw [HBB.out]; done) | (rw [HBB.out]; rfl) | (rw [HBB.out]; go_num), HB.out.1, by first | rfl | go_num | (rw [HSS.out]), HB.out.2, by go_num, by omega, rfl⟩
                case measure => simp [intOf]; omega
              · have hyi : (y : Int) ≤ 6553600 := by omega
                have hy0 : 0 ≤ (y : Int) := by omega
                have hz0 : 0 ≤ (z : Int) := by omega
                have hyzi : (y : Int) + (s : Int) < (z : Int) := by omega
                have HBB := Lib.hid hbb
                clear hbb hyb hyz
                have HC := Lib.hid (show Calls Try.prog 14 #[.slice (some ⟨g, 0, none⟩) n cap, .int .i64 (a2 : Int), .int .i64 (s2 : Int), .int .i64 (c3 : Int), .int .i64 (limit : Int)] w fun e w' => e = .returned (.int .i64 (y : Int)) ∧ w' = w from HC.out)
                go_wp2_with fail
                refine HC.out.mono ?_
                rintro e w1 ⟨rfl, hw⟩
                replace hw := hw.symm
                subst hw
                go_wp2_with fail
                go_roundw
                case rel => exact ⟨j + 1, s', b', by first | rfl | (rw [HBB.out]; done) | (rw [HBB.out]; rfl) | (rw [HBB.out]; go_num), HB.out.1, by first | rfl | go_num | (rw [HSS.out]), HB.out.2, by go_num, by omega, rfl⟩
                case measure => simp [intOf]; omega
              · have hyi : (y : Int) ≤ 6553600 := by omega
                have hy0 : 0 ≤ (y : Int) := by omega
                have hz0 : 0 ≤ (z : Int) := by omega
                have hyzi : (z : Int) ≤ (y : Int) + (s : Int) := by omega
                have HBB := Lib.hid hbb
                clear hbb hyb hyz
                have HC := Lib.hid (show Calls Try.prog 14 #[.slice (some ⟨g, 0, none⟩) n cap, .int .i64 (a2 : Int), .int .i64 (s2 : Int), .int .i64 (c3 : Int), .int .i64 (limit : Int)] w fun e w' => e = .returned (.int .i64 (y : Int)) ∧ w' = w from HC.out)
                go_wp2_with fail
                refine HC.out.mono ?_
                rintro e w1 ⟨rfl, hw⟩
                replace hw := hw.symm
                subst hw
                go_wp2_with fail
                go_roundw
                case rel => exact ⟨j + 1, s', b', by first | rfl | (rw [HBB.out]; done) | (rw [HBB.out]; rfl) | (rw [HBB.out]; go_num), HB.out.1, by first | rfl | go_num | (rw [HSS.out]), HB.out.2, by go_num, by omega, rfl⟩
                case measure => simp [intOf]; omega
            · have hand : decide (a2 < n) = false := by simp; omega
              have HSS := Lib.hid hss
              clear han hss
              rcases hbc with ⟨rfl, hbb⟩ | ⟨y, rfl, hyb, ⟨rfl, hbb⟩ | ⟨z, rfl, ⟨hyz, hbb⟩ | ⟨hyz, hbb⟩⟩⟩
              · have HBB := Lib.hid hbb
                clear hbb
                have HC := Lib.hid (show Calls Try.prog 14 #[.slice (some ⟨g, 0, none⟩) n cap, .int .i64 (a2 : Int), .int .i64 (s2 : Int), .int .i64 (c3 : Int), .int .i64 (limit : Int)] w fun e w' => e = .returned (.int .i64 (-1)) ∧ w' = w from HC.out)
                go_wp2_with fail
                refine HC.out.mono ?_
                rintro e w1 ⟨rfl, hw⟩
                replace hw := hw.symm
                subst hw
                go_wp2_with fail
                go_roundw
                case rel => exact ⟨j + 1, s', b', by first | rfl | (rw [HBB.out]; done) | (rw [HBB.out]; rfl) | (rw [HBB.out]; go_num), HB.out.1, by first | rfl | go_num | (rw [HSS.out]), HB.out.2, by go_num, by omega, rfl⟩
                case measure => simp [intOf]; omega
              · have hyi : (y : Int) ≤ 6553600 := by omega
                have hy0 : 0 ≤ (y : Int) := by omega
                have HBB := Lib.hid hbb
                clear hbb hyb
                have HC := Lib.hid (show Calls Try.prog 14 #[.slice (some ⟨g, 0, none⟩) n cap, .int .i64 (a2 : Int), .int .i64 (s2 : Int), .int .i64 (c3 : Int), .int .i64 (limit : Int)] w fun e w' => e = .returned (.int .i64 (y : Int)) ∧ w' = w from HC.out)
                go_wp2_with fail
                refine HC.out.mono ?_
                rintro e w1 ⟨rfl, hw⟩
                replace hw := hw.symm
                subst hw
                go_wp2_with fail
                go_roundw
                case rel => exact ⟨j + 1, s', b', by first | rfl | (rw [HBB.out]; done) | (rw [HBB.out]; rfl) | (rw [HBB.out]; go_num), HB.out.1, by first | rfl | go_num | (rw [HSS.out]), HB.out.2, by go_num, by omega, rfl⟩
                case measure => simp [intOf]; omega
              · have hyi : (y : Int) ≤ 6553600 := by omega
                have hy0 : 0 ≤ (y : Int) := by omega
                have hz0 : 0 ≤ (z : Int) := by omega
                have hyzi : (y : Int) + (s : Int) < (z : Int) := by omega
                have HBB := Lib.hid hbb
                clear hbb hyb hyz
                have HC := Lib.hid (show Calls Try.prog 14 #[.slice (some ⟨g, 0, none⟩) n cap, .int .i64 (a2 : Int), .int .i64 (s2 : Int), .int .i64 (c3 : Int), .int .i64 (limit : Int)] w fun e w' => e = .returned (.int .i64 (y : Int)) ∧ w' = w from HC.out)
                go_wp2_with fail
                refine HC.out.mono ?_
                rintro e w1 ⟨rfl, hw⟩
                replace hw := hw.symm
                subst hw
                go_wp2_with fail
                go_roundw
                case rel => exact ⟨j + 1, s', b', by first | rfl | (rw [HBB.out]; done) | (rw [HBB.out]; rfl) | (rw [HBB.out]; go_num), HB.out.1, by first | rfl | go_num | (rw [HSS.out]), HB.out.2, by go_num, by omega, rfl⟩
                case measure => simp [intOf]; omega
              · have hyi : (y : Int) ≤ 6553600 := by omega
                have hy0 : 0 ≤ (y : Int) := by omega
                have hz0 : 0 ≤ (z : Int) := by omega
                have hyzi : (z : Int) ≤ (y : Int) + (s : Int) := by omega
                have HBB := Lib.hid hbb
                clear hbb hyb hyz
                have HC := Lib.hid (show Calls Try.prog 14 #[.slice (some ⟨g, 0, none⟩) n cap, .int .i64 (a2 : Int), .int .i64 (s2 : Int), .int .i64 (c3 : Int), .int .i64 (limit : Int)] w fun e w' => e = .returned (.int .i64 (y : Int)) ∧ w' = w from HC.out)
                go_wp2_with fail
                refine HC.out.mono ?_
                rintro e w1 ⟨rfl, hw⟩
                replace hw := hw.symm
                subst hw
                go_wp2_with fail
                go_roundw
                case rel => exact ⟨j + 1, s', b', by first | rfl | (rw [HBB.out]; done) | (rw [HBB.out]; rfl) | (rw [HBB.out]; go_num), HB.out.1, by first | rfl | go_num | (rw [HSS.out]), HB.out.2, by go_num, by omega, rfl⟩
                case measure => simp [intOf]; omega
          · have hjd : decide (j ≤ codes) = false := by simp; omega
            have hje : j = codes + 1 := by omega
            have HE := Lib.hid (show encO (bestO (f + 1) l size codes) = b by rw [HR.out, ← hje]; exact hb)
            clear hb hs hje
            go_wp2_with fail
            go_ret
            exact ⟨by rw [HE.out]; rfl, rfl⟩
end Go.Proofs.Ytmajacfcfdljeaa
