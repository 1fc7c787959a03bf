/- Merging in place: symMergeCmpFunc, as a whole. stableCmpFunc, SortStableFunc: things put in order, those of one weight as they stood. -/
import Derived.Test.YtciejmlhdmjajaaKSe
import Derived.Deep.CutRange
namespace Go.Proofs.Ytciejmlhdmjajaa
open Go.RowKit
set_option linter.unusedVariables false
set_option linter.unusedSimpArgs false

/-- The contract of merging, for ranges of no more than N. -/
def MergeOk (N : Nat) : Prop := ∀ (q : FuncId) (hq : CmpOk q) (g n c a m b : Nat) (F : Nat → Th) (σ : Nat → Nat) (w : World) (h : Trow w g n (fun k => F (σ k))) (hn : n ≤ 1000) (ham : a < m) (hmb : m < b) (hb : b ≤ n) (hW : ∀ k, (F k).w ≤ 1000000000000000) (hT : Two (fun k => (F k).w) σ a m b) (hN : b - a ≤ N),
    Calls Try.prog 95 #[.slice (some ⟨g, 0, none⟩) n c, .int .i64 (a : Int), .int .i64 (m : Int), .int .i64 (b : Int), .func (.func q) #[] #[]] w fun e w' => e = .returned (.tuple #[]) ∧ Fr [g] w w' ∧ ∃ τ, Trow w' g n (fun k => F (τ k)) ∧ Shuf a b σ τ ∧ SortedS (fun k => (F k).w) τ a b

set_option maxRecDepth 2000000 in
set_option maxHeartbeats 12800000 in
theorem merge_gen (N : Nat) (IH : MergeOk N) (q : FuncId) (hq : CmpOk q) (g n c a m b : Nat) (F : Nat → Th) (σ : Nat → Nat) (w : World) (h : Trow w g n (fun k => F (σ k))) (hn : n ≤ 1000) (ham : a + 1 < m) (hmb : m + 1 < b) (hb : b ≤ n) (hW : ∀ k, (F k).w ≤ 1000000000000000) (hT : Two (fun k => (F k).w) σ a m b) (hN : b - a ≤ N + 1) :
    Calls Try.prog 95 #[.slice (some ⟨g, 0, none⟩) n c, .int .i64 (a : Int), .int .i64 (m : Int), .int .i64 (b : Int), .func (.func q) #[] #[]] w fun e w' => e = .returned (.tuple #[]) ∧ Fr [g] w w' ∧ ∃ τ, Trow w' g n (fun k => F (τ k)) ∧ Shuf a b σ τ ∧ SortedS (fun k => (F k).w) τ a b := by
  have i1 : (n : Int) ≤ 1000 := by omega
  have i2 : (a : Int) + 1 < (m : Int) := by omega
  have i3 : (m : Int) + 1 < (b : Int) := by omega
  have i4 : (b : Int) ≤ (n : Int) := by omega
  have j1 : ((m : Int) - (a : Int) == 1) = false := by simp; omega
  have j2 : ¬ (m : Int) - (a : Int) = 1 := by omega
  have j3 : ((b : Int) - (m : Int) == 1) = false := by simp; omega
  have j4 : ¬ (b : Int) - (m : Int) = 1 := by omega
  obtain ⟨d, hd⟩ : ∃ d, d = (a + b) / 2 := ⟨_, rfl⟩
  obtain ⟨s0, r0, h0⟩ : ∃ s0 r0, d < m ∧ s0 = d + m - b ∧ r0 = d ∨ m ≤ d ∧ s0 = a ∧ r0 = m := by
    by_cases hdm : d < m
    · exact ⟨_, _, .inl ⟨hdm, rfl, rfl⟩⟩
    · exact ⟨_, _, .inr ⟨by omega, rfl, rfl⟩⟩
  obtain ⟨nn, hnn⟩ : ∃ nn, nn = d + m := ⟨_, rfl⟩
  obtain ⟨p, hp⟩ : ∃ p, p = nn - 1 := ⟨_, rfl⟩
  have ed : ((a : Int) + (b : Int)) / 2 = (d : Int) := by omega
  have en : (d : Int) + (m : Int) = (nn : Int) := by omega
  have ep : (nn : Int) - 1 = (p : Int) := by omega
  have k1 : (nn : Int) ≤ 2000 := by omega
  have k2 : (d : Int) ≤ (b : Int) := by omega
  have H := Lib.hid (And.intro h (And.intro hq (And.intro hW hT)))
  have HI := Lib.hid (And.intro IH hN)
  have HD := Lib.hid (And.intro hd (And.intro h0 (And.intro hnn hp)))
  have HN := Lib.hid hn
  clear h hq hW hT hn IH hN hd h0 hnn hp
  go_enter Try.func95, Try.ntmps95
  go_upto_if 140 with fail
  go_cut [20, 21] from 141 to 146 (fun s r wx => s = .int .i64 (s0 : Int) ∧ r = .int .i64 (r0 : Int) ∧ wx = w)
  case first =>
    obtain ⟨hd, h0, hnn, hp⟩ := HD.out
    rcases h0 with ⟨h1, h2, h3⟩ | ⟨h1, h2, h3⟩
    · have z1 : (d : Int) < (m : Int) := by omega
      have z2 : (nn : Int) - (b : Int) = (s0 : Int) := by omega
      have z3 : (d : Int) = (r0 : Int) := by omega
      have Z3 := Lib.hid z3
      clear hd hnn hp h1 h2 h3 z3
      go_wp2_with fail
      go_meet
      case rel => exact ⟨rfl, by rw [Z3.out], rfl⟩
    · have z1 : (m : Int) ≤ (d : Int) := by omega
      have z2 : (a : Int) = (s0 : Int) := by omega
      have z3 : (m : Int) = (r0 : Int) := by omega
      have Z3 := Lib.hid (And.intro z2 z3)
      clear hd hnn hp h1 h2 h3 z2 z3
      go_wp2_with fail
      go_meet
      case rel => exact ⟨by rw [Z3.out.1], by rw [Z3.out.2], rfl⟩
  case rest =>
  obtain ⟨rfl, rfl, hwc⟩ := hcut
  replace hwc := hwc.symm
  subst hwc
  go_wp2_with fail
  go_loopw [20, 21] (fun u v wr => ∃ (i j : Nat), s0 ≤ i ∧ i ≤ j ∧ j ≤ r0 ∧ u = .int .i64 (i : Int) ∧ v = .int .i64 (j : Int) ∧ (∀ k, s0 ≤ k → k < i → (F (σ k)).w ≤ (F (σ (d + m - 1 - k))).w) ∧ (∀ k, j ≤ k → k < r0 → (F (σ (d + m - 1 - k))).w < (F (σ k)).w) ∧ Fr [] w wr) (fun u v _ => (intOf v).toNat - (intOf u).toNat)
  case atStart =>
    obtain ⟨hd, h0, hnn, hp⟩ := HD.out
    exact ⟨s0, r0, Nat.le_refl _, by omega, Nat.le_refl _, rfl, rfl, fun k h1 h2 => by omega, fun k h1 h2 => by omega, Fr.refl _ _⟩
  case round =>
    obtain ⟨i, j, hsi, hij, hjr, rfl, rfl, pp, rr, hf⟩ := hrel
    by_cases hlt : i < j
    · obtain ⟨hd, h0, hnn, hp⟩ := HD.out
      have hli : (i : Int) < (j : Int) := by omega
      have hji : (j : Int) ≤ (b : Int) := by omega
      obtain ⟨x, hx⟩ : ∃ x, (i + j) / 2 = x := ⟨_, rfl⟩
      obtain ⟨y, hy⟩ : ∃ y, d + m - 1 - x = y := ⟨_, rfl⟩
      have ex : ((i : Int) + (j : Int)) / 2 = (x : Int) := by omega
      have ey : (p : Int) - (x : Int) = (y : Int) := by omega
      have hxi : i ≤ x := by omega
      have hxj : x < j := by omega
      have hax : a ≤ x := by omega
      have hxm : x < m := by omega
      have hmy : m ≤ y := by omega
      have hyb : y < b := by omega
      have hT0 := H.out.1.to hf (by simp)
      have d0 := hT0.c0 x (by omega)
      have d1 := hT0.c1 x (by omega)
      have d2 := hT0.c2 x (by omega)
      have e0 := hT0.c0 y (by omega)
      have e1 := hT0.c1 y (by omega)
      have e2 := hT0.c2 y (by omega)
      have hgl := hT0.lt
      have hxn : (x : Int) < (n : Int) := by omega
      have han : (y : Int) < (n : Int) := by omega
      have hcm := fun W => H.out.2.1.2 (F (σ y)) (F (σ x)) W (H.out.2.2.1 _) (H.out.2.2.1 _)
      obtain ⟨⟨pw, ps, pt⟩, hP⟩ : ∃ z, F (σ x) = z := ⟨_, rfl⟩
      obtain ⟨⟨qw, qs, qt⟩, hQ⟩ : ∃ z, F (σ y) = z := ⟨_, rfl⟩
      simp only [hP, hQ] at d0 d1 d2 e0 e1 e2 hcm
      have HS := Lib.hid (And.intro pp (And.intro rr (And.intro hf (And.intro hP (And.intro hQ hy)))))
      unfold tv at hcm
      have HC := Lib.hid hcm
      clear pp rr hf hx hT0 hcm hP hQ hy hd h0 hnn hp
      by_cases hcl : qw < pw
      · rw [cmp_neg hcl] at HC
        have HCL := Lib.hid hcl
        clear hcl
        go_wp2_with fail
        refine wp_region_quiet_tail 11 (by kernel_rfl) (by kernel_rfl) ?_
        simp only [List.take_succ_cons, List.take_zero, List.drop_succ_cons, List.drop_zero]
        repeat go_big_quiet_step (fail)
        refine wpQuiet_nil ?_
        have hen := H.out.2.1.1
        go_wp2_with fail
        refine (HC.out _).mono ?_
        rintro e w5 ⟨rfl, f5⟩
        have H5 := Lib.hid ((Fr.drew (Fr.refl [] wr)).trans f5)
        clear f5 hen
        go_wp2_with fail
        go_roundw
        case rel =>
          obtain ⟨pp, rr, hf, hP, hQ, hy⟩ := HS.out
          obtain ⟨hd, h0, hnn, hp⟩ := HD.out
          refine ⟨i, x, by omega, by omega, by omega, rfl, rfl, pp, fun k h1 h2 => ?_, hf.trans H5.out⟩
          have l1 := H.out.2.2.2.l.le hax h1 (by omega)
          have l2 := H.out.2.2.2.r.le (show m ≤ d + m - 1 - k by omega) (show d + m - 1 - k ≤ y by omega) hyb
          have h3 := HCL.out
          simp only [hP, hQ] at l1 l2
          omega
        case measure => simp [intOf]; omega
      · obtain ⟨hc0, hc1⟩ := cmp_pos hcl
        obtain ⟨cr, hcr⟩ : ∃ cr, cmpI qw pw = cr := ⟨_, rfl⟩
        rw [hcr] at HC hc0 hc1
        have hnb : decide (cr < 0) = false := by simp; omega
        have HCL := Lib.hid hcl
        clear hcl hcr
        go_wp2_with fail
        refine wp_region_quiet_tail 11 (by kernel_rfl) (by kernel_rfl) ?_
        simp only [List.take_succ_cons, List.take_zero, List.drop_succ_cons, List.drop_zero]
        repeat go_big_quiet_step (fail)
        refine wpQuiet_nil ?_
        have hen := H.out.2.1.1
        go_wp2_with fail
        refine (HC.out _).mono ?_
        rintro e w5 ⟨rfl, f5⟩
        have H5 := Lib.hid ((Fr.drew (Fr.refl [] wr)).trans f5)
        clear f5 hen
        go_wp2_with fail
        go_roundw
        case rel =>
          obtain ⟨pp, rr, hf, hP, hQ, hy⟩ := HS.out
          obtain ⟨hd, h0, hnn, hp⟩ := HD.out
          refine ⟨x + 1, j, by omega, by omega, by omega, by go_num, rfl, fun k h1 h2 => ?_, rr, hf.trans H5.out⟩
          have l1 := H.out.2.2.2.l.le (show a ≤ k by omega) (show k ≤ x by omega) hxm
          have l2 := H.out.2.2.2.r.le hmy (show y ≤ d + m - 1 - k by omega) (by omega)
          have h3 := HCL.out
          simp only [hP, hQ] at l1 l2
          omega
        case measure => simp [intOf]; omega
    · obtain rfl : i = j := by omega
      obtain ⟨hd, h0, hnn, hp⟩ := HD.out
      obtain ⟨g1, g2, g3, g4, g5, g6, hcut⟩ := H.out.2.2.2.sym (by omega) (by omega) s0 r0 i d hd h0 hsi hjr pp rr
      obtain ⟨e, he⟩ : ∃ e, d + m - i = e := ⟨_, rfl⟩
      rw [he] at g3 g4 g6 hcut
      have ee : (nn : Int) - (i : Int) = (e : Int) := by omega
      have hdb : d < b := by omega
      have had : a < d := by omega
      have q1 : (i : Int) ≤ (m : Int) := by omega
      have q2 : (m : Int) ≤ (e : Int) := by omega
      have q3 : (e : Int) ≤ (b : Int) := by omega
      have q4 : (i : Int) ≤ (d : Int) := by omega
      have q5 : (d : Int) ≤ (e : Int) := by omega
      have q6 : (a : Int) ≤ (i : Int) := by omega
      have HS := Lib.hid (And.intro hf (And.intro hcut he))
      clear pp rr hf hcut he hd h0 hnn hp
      go_upto_region 39 with fail
      go_cut [185] from 178 to 184 (fun t wx => t = .bool (decide (i < m ∧ m < e)) ∧ wx = wr)
      case first =>
        by_cases c1 : i < m
        · have z1 : (i : Int) < (m : Int) := by omega
          by_cases c2 : m < e
          · have z2 : (m : Int) < (e : Int) := by omega
            go_wp2_with fail
            go_meet
            case rel => exact ⟨by simp [c1, c2], rfl⟩
          · have z2 : (e : Int) ≤ (m : Int) := by omega
            go_wp2_with fail
            go_meet
            case rel => exact ⟨by simp [c1, c2], rfl⟩
        · have z1 : (m : Int) ≤ (i : Int) := by omega
          go_wp2_with fail
          go_meet
          case rel => exact ⟨by simp [c1], rfl⟩
      case rest =>
      obtain ⟨rfl, hwc⟩ := hcut
      replace hwc := hwc.symm
      subst hwc
      go_upto_if 185 with fail
      go_cut [] from 185 to 191 (fun wx => Trow wx g n (fun k => F (rotF σ i m e k)) ∧ Fr [g] w wx)
      case first =>
        by_cases c1 : i < m ∧ m < e
        · rw [decide_eq_true c1]
          have HC := Lib.hid (rotate_any g n c i m e _ wr (H.out.1.to HS.out.1 (by simp)) HN.out c1.1 c1.2 (by omega) (.func (.func q) #[] #[]))
          go_wp2_with fail
          refine HC.out.mono ?_
          rintro e1 w1 ⟨rfl, hT1, hf1⟩
          have H1 := Lib.hid (And.intro hT1 hf1)
          clear hT1 hf1
          go_wp2_with fail
          go_meet
          case rel => exact ⟨H1.out.1.congr fun k _ => (rot_comp F σ i m e k).symm, HS.out.1.nil.trans H1.out.2⟩
        · rw [decide_eq_false c1]
          have hor : i = m ∨ e = m := by omega
          have HO := Lib.hid hor
          clear hor
          go_wp2_with fail
          go_meet
          case rel => exact ⟨(H.out.1.to HS.out.1 (by simp)).congr fun k _ => by rw [rot_same σ i m e HO.out g2 g3 k], HS.out.1.nil⟩
      case rest =>
      obtain ⟨hTc, hfc⟩ := hcut
      obtain ⟨ρ, hρ⟩ : ∃ ρ, rotF σ i m e = ρ := ⟨_, rfl⟩
      rw [hρ] at hTc HS
      have HR := Lib.hid (And.intro hTc hfc)
      clear hTc hfc hρ
      go_upto_region 41 with fail
      go_cut [199] from 192 to 198 (fun t wx => t = .bool (decide (a < i ∧ i < d)) ∧ wx = wc)
      case first =>
        by_cases c1 : a < i
        · have z1 : (a : Int) < (i : Int) := by omega
          by_cases c2 : i < d
          · have z2 : (i : Int) < (d : Int) := by omega
            go_wp2_with fail
            go_meet
            case rel => exact ⟨by simp [c1, c2], rfl⟩
          · have z2 : (d : Int) ≤ (i : Int) := by omega
            go_wp2_with fail
            go_meet
            case rel => exact ⟨by simp [c1, c2], rfl⟩
        · have z1 : (i : Int) ≤ (a : Int) := by omega
          go_wp2_with fail
          go_meet
          case rel => exact ⟨by simp [c1], rfl⟩
      case rest =>
      obtain ⟨rfl, hwc⟩ := hcut
      replace hwc := hwc.symm
      subst hwc
      go_upto_if 199 with fail
      go_cut [] from 199 to 205 (fun wx => ∃ α, Trow wx g n (fun k => F (α k)) ∧ Shuf a d ρ α ∧ SortedS (fun k => (F k).w) α a d ∧ Fr [g] w wx)
      case first =>
        by_cases c1 : a < i ∧ i < d
        · rw [decide_eq_true c1]
          have HC := Lib.hid (HI.out.1 q H.out.2.1 g n c a i d F ρ _ HR.out.1 HN.out c1.1 c1.2 (by omega) H.out.2.2.1 ⟨HS.out.2.1.s1, HS.out.2.1.s2, HS.out.2.1.t1⟩ (by have := HI.out.2; omega))
          go_wp2_with fail
          refine HC.out.mono ?_
          rintro e1 w1 ⟨rfl, hf1, hT1⟩
          have H1 := Lib.hid (And.intro hT1 hf1)
          clear hT1 hf1
          go_wp2_with fail
          go_meet
          case rel =>
            obtain ⟨α, t1, t2, t3⟩ := H1.out.1
            exact ⟨α, t1, t2, t3, HR.out.2.trans H1.out.2⟩
        · rw [decide_eq_false c1]
          have HO := Lib.hid c1
          clear c1
          go_wp2_with fail
          go_meet
          case rel =>
            have c1 := HO.out
            have hc := HS.out.2.1
            refine ⟨ρ, HR.out.1, Shuf.refl _ _ _, ?_, HR.out.2⟩
            by_cases c2 : a < i
            · have : i = d := by omega
              rw [← this]
              exact hc.s1
            · have : i = a := by omega
              rw [← this]
              exact hc.s2
      case rest =>
      obtain ⟨α, hTc, hsh, hso, hfc⟩ := hcut
      have HA := Lib.hid (And.intro hTc (And.intro hsh (And.intro hso hfc)))
      clear hTc hsh hso hfc
      go_upto_region 43 with fail
      go_cut [213] from 206 to 212 (fun t wx => t = .bool (decide (d < e ∧ e < b)) ∧ wx = wc)
      case first =>
        by_cases c1 : d < e
        · have z1 : (d : Int) < (e : Int) := by omega
          by_cases c2 : e < b
          · have z2 : (e : Int) < (b : Int) := by omega
            go_wp2_with fail
            go_meet
            case rel => exact ⟨by simp [c1, c2], rfl⟩
          · have z2 : (b : Int) ≤ (e : Int) := by omega
            go_wp2_with fail
            go_meet
            case rel => exact ⟨by simp [c1, c2], rfl⟩
        · have z1 : (e : Int) ≤ (d : Int) := by omega
          go_wp2_with fail
          go_meet
          case rel => exact ⟨by simp [c1], rfl⟩
      case rest =>
      obtain ⟨rfl, hwc⟩ := hcut
      replace hwc := hwc.symm
      subst hwc
      by_cases c1 : d < e ∧ e < b
      · rw [decide_eq_true c1]
        have hc := HS.out.2.1
        have h3 : SortedS (fun k => (F k).w) α d e := hc.s3.congr fun k k1 k2 => HA.out.2.1.1 k (by omega)
        have h4 : SortedS (fun k => (F k).w) α e b := hc.s4.congr fun k k1 k2 => HA.out.2.1.1 k (by omega)
        have h5 : ∀ i j, d ≤ i → i < e → e ≤ j → j < b → α i < α j := fun i j k1 k2 k3 k4 => by
          rw [HA.out.2.1.1 i (by omega), HA.out.2.1.1 j (by omega)]
          exact hc.t2 i j k1 k2 k3 k4
        have HC := Lib.hid (HI.out.1 q H.out.2.1 g n c d e b F α _ HA.out.1 HN.out c1.1 c1.2 (by omega) H.out.2.2.1 ⟨h3, h4, h5⟩ (by have := HI.out.2; omega))
        clear hc h3 h4 h5
        go_wp2_with fail
        refine HC.out.mono ?_
        rintro e1 w1 ⟨rfl, hf1, hT1⟩
        have H1 := Lib.hid (And.intro hT1 hf1)
        clear hT1 hf1
        go_wp2_with fail
        refine bodyPost_end (v := .tuple #[]) (by simp [results, Try.results95, go_sem]) rfl ?_
        obtain ⟨τ, t1, t2, t3⟩ := H1.out.1
        exact ⟨rfl, HA.out.2.2.2.trans H1.out.2, τ, t1, HS.out.2.1.merged (by omega) (by omega) HA.out.2.1 t2 HA.out.2.2.1 t3⟩
      · rw [decide_eq_false c1]
        have HO := Lib.hid c1
        clear c1
        go_wp2_with fail
        refine bodyPost_end (v := .tuple #[]) (by simp [results, Try.results95, go_sem]) rfl ?_
        have c1 := HO.out
        have hc := HS.out.2.1
        refine ⟨rfl, HA.out.2.2.2, α, HA.out.1, hc.merged (by omega) (by omega) HA.out.2.1 (Shuf.refl _ _ _) HA.out.2.2.1 ?_⟩
        by_cases c2 : d < e
        · have : e = b := by omega
          rw [← this]
          exact hc.s3.congr fun k k1 k2 => HA.out.2.1.1 k (by omega)
        · have : e = d := by omega
          rw [← this]
          exact hc.s4.congr fun k k1 k2 => HA.out.2.1.1 k (by omega)
theorem merge_ok (N : Nat) : MergeOk N := by
  induction N with
  | zero => intro q hq g n c a m b F σ w h hn ham hmb hb hW hT hN; omega
  | succ N ih =>
    intro q hq g n c a m b F σ w h hn ham hmb hb hW hT hN
    by_cases h1 : m = a + 1
    · exact merge_left q hq g n c a m b F σ w h hn h1 hmb hb hW hT
    · by_cases h2 : b = m + 1
      · exact merge_right q hq g n c a m b F σ w h hn (by omega) h2 hb hW hT
      · exact merge_gen N ih q hq g n c a m b F σ w h hn (by omega) (by omega) hb hW hT hN
end Go.Proofs.Ytciejmlhdmjajaa
namespace Go.Proofs.Ytciejmlhdmjajaa
open Go.RowKit
set_option linter.unusedVariables false
set_option linter.unusedSimpArgs false

/-- The block from c to d is sorted, and holds what was in it. -/
def Ok (W : Nat → Nat) (n : Nat) (ρ : Nat → Nat) (c d : Nat) : Prop := SortedS W ρ c (min d n) ∧ ∀ k, c ≤ k → k < d → k < n → c ≤ ρ k ∧ ρ k < d ∧ ρ k < n
theorem Ok.far {W : Nat → Nat} {n : Nat} {ρ : Nat → Nat} {c d : Nat} (h : n ≤ c) : Ok W n ρ c d := ⟨fun i j h1 h2 h3 => by omega, fun k h1 h2 h3 => by omega⟩
theorem Ok.wide {W : Nat → Nat} {n : Nat} {ρ : Nat → Nat} {c m d : Nat} (h : Ok W n ρ c m) (hm : n ≤ m) (hd : m ≤ d) : Ok W n ρ c d :=
  ⟨fun i j h1 h2 h3 => h.1 i j h1 h2 (by omega), fun k h1 h2 h3 => by have := h.2 k h1 (by omega) h3; omega⟩
theorem Ok.two {W : Nat → Nat} {n : Nat} {ρ : Nat → Nat} {c m d : Nat} (h : Ok W n ρ c m) (k : Ok W n ρ m d) (h1 : m < n) (h2 : m ≤ d) : Two W ρ c m (min d n) :=
  ⟨fun i j a b e => h.1 i j a b (by omega), fun i j a b e => k.1 i j a b e, fun i j a b e f => by have := h.2 i a b (by omega); have := k.2 j e (by omega) (by omega); omega⟩
theorem Ok.merged {W : Nat → Nat} {n : Nat} {ρ τ : Nat → Nat} {c m d : Nat} (h : Ok W n ρ c m) (k : Ok W n ρ m d) (h0 : c ≤ m) (h2 : m ≤ d) (hs : Shuf c (min d n) ρ τ) (hso : SortedS W τ c (min d n)) : Ok W n τ c d := by
  refine ⟨hso, fun i h3 h4 h5 => ?_⟩
  obtain ⟨j, j1, j2, j3⟩ := hs.2.1 i h3 (by omega)
  rw [j3]
  by_cases hj : j < m
  · have := h.2 j j1 hj (by omega); omega
  · have := k.2 j (by omega) (by omega) (by omega); omega
theorem Ok.keep {W : Nat → Nat} {n : Nat} {ρ τ : Nat → Nat} {c d a b : Nat} (h : Ok W n ρ c d) (hs : Shuf a b ρ τ) (hd : d ≤ a ∨ b ≤ c) : Ok W n τ c d := by
  refine ⟨h.1.congr fun k h1 h2 => hs.1 k (by omega), fun k h1 h2 h3 => ?_⟩
  rw [hs.1 k (by omega)]
  exact h.2 k h1 h2 h3
theorem dvd_step {D c a : Nat} (h1 : D ∣ c) (h2 : D ∣ a) (h : c < a) : c + D ≤ a := by
  have h3 : D ∣ a - c := Nat.dvd_sub h2 h1
  have := Nat.le_of_dvd (by omega) h3
  omega
theorem shuf_lt {n : Nat} {ρ : Nat → Nat} (h : Shuf 0 n id ρ) (k : Nat) (hk : k < n) : ρ k < n := by
  obtain ⟨j, _, h2, h3⟩ := h.2.1 k (by omega) hk
  rw [h3]; exact h2

set_option maxRecDepth 2000000 in
set_option maxHeartbeats 12800000 in
theorem stable_any (q : FuncId) (hq : CmpOk q) (g n c : Nat) (F : Nat → Th) (w : World) (h : Trow w g n F) (hn : n ≤ 1000) (hW : ∀ k, (F k).w ≤ 1000000000000000) :
    Calls Try.prog 85 #[.slice (some ⟨g, 0, none⟩) n c, .int .i64 (n : Int), .func (.func q) #[] #[]] w fun e w' => e = .returned (.tuple #[]) ∧ Fr [g] w w' ∧ ∃ τ, Trow w' g n (fun k => F (τ k)) ∧ Shuf 0 n id τ ∧ SortedS (fun k => (F k).w) τ 0 n := by
  have i1 : (n : Int) ≤ 1000 := by omega
  have H := Lib.hid (And.intro h (And.intro hq hW))
  have HN := Lib.hid hn
  clear h hq hW hn
  go_enter Try.func85, Try.ntmps85
  go_wp2_with fail
  go_loopw [7, 8] (fun u v wr => ∃ (a : Nat) (ρ : Nat → Nat), a ≤ n ∧ 20 ∣ a ∧ u = .int .i64 (a : Int) ∧ v = .int .i64 ((a + 20 : Nat) : Int) ∧ Trow wr g n (fun k => F (ρ k)) ∧ (∀ c, 20 ∣ c → c < a → Ok (fun k => (F k).w) n ρ c (c + 20)) ∧ (∀ k, a ≤ k → ρ k = k) ∧ Shuf 0 n id ρ ∧ Fr [g] w wr) (fun u _ _ => n - (intOf u).toNat)
  case atStart => exact ⟨0, id, by omega, ⟨0, rfl⟩, rfl, rfl, H.out.1, fun c _ h => by omega, fun _ _ => rfl, Shuf.refl _ _ _, Fr.refl _ _⟩
  case round =>
    obtain ⟨a, ρ, han, hda, rfl, rfl, hT, hok, hid', hsh, hf⟩ := hrel
    by_cases hlt : a + 20 ≤ n
    · have hli : ((a + 20 : Nat) : Int) ≤ (n : Int) := by omega
      have hai : (a : Int) + 20 ≤ (n : Int) := by omega
      have e40 : ((a + 20 : Nat) : Int) + 20 = ((a + 20 + 20 : Nat) : Int) := by omega
      have HC := Lib.hid (insertion_any q H.out.2.1 g n c a (a + 20) F ρ wr hT HN.out (by omega) hlt H.out.2.2 (fun i j h1 h2 h3 => by rw [hid' i h1, hid' j (by omega)]; exact h2))
      have HS := Lib.hid (And.intro hok (And.intro hid' (And.intro hsh (And.intro hf hda))))
      clear hT hok hid' hsh hf hda
      go_wp2_with fail
      refine HC.out.mono ?_
      rintro e1 w1 ⟨rfl, hf1, hT1⟩
      have H1 := Lib.hid (And.intro hT1 hf1)
      clear hT1 hf1
      go_wp2_with fail
      go_roundw
      case rel =>
        obtain ⟨⟨τ, t1, t2, t3⟩, hf1⟩ := H1.out
        obtain ⟨hok, hid', hsh, hf, hda⟩ := HS.out
        refine ⟨a + 20, τ, hlt, Nat.dvd_add hda (Nat.dvd_refl _), rfl, by first | rfl | (congr 1; omega), t1, fun c h1 h2 => ?_, fun k hk => ?_, hsh.trans (t2.mono (by omega) hlt), hf.trans hf1⟩
        · by_cases hca : c < a
          · exact (hok c h1 hca).keep t2 (.inl (dvd_step h1 hda hca))
          · have hce : c = a := by
              have := fun h => dvd_step hda h1 h
              omega
            subst hce
            refine ⟨fun i j k1 k2 k3 => t3 i j k1 k2 (by omega), fun k k1 k2 k3 => ?_⟩
            obtain ⟨j, j1, j2, j3⟩ := t2.2.1 k k1 k2
            rw [j3, hid' j j1]
            omega
        · rw [t2.1 k (by omega)]
          exact hid' k (by omega)
      case measure => simp [intOf]; omega
    · have hli : (n : Int) < ((a + 20 : Nat) : Int) := by omega
      have han' : (a : Int) ≤ (n : Int) := by omega
      have HC := Lib.hid (insertion_any q H.out.2.1 g n c a n F ρ wr hT HN.out han (Nat.le_refl _) H.out.2.2 (fun i j h1 h2 h3 => by rw [hid' i h1, hid' j (by omega)]; exact h2))
      have HS := Lib.hid (And.intro hok (And.intro hid' (And.intro hsh (And.intro hf (And.intro hda hlt)))))
      clear hT hok hid' hsh hf hda hlt
      go_wp2_with fail
      refine HC.out.mono ?_
      rintro e1 w1 ⟨rfl, hf1, hT1⟩
      have H1 : Hid (∃ ρ, Trow w1 g n (fun k => F (ρ k)) ∧ (∀ c, 20 ∣ c → Ok (fun k => (F k).w) n ρ c (c + 20)) ∧ Shuf 0 n id ρ ∧ Fr [g] w w1) := by
        apply Lib.hid
        obtain ⟨τ, t1, t2, t3⟩ := hT1
        obtain ⟨hok, hid', hsh, hf, hda, hlt⟩ := HS.out
        refine ⟨τ, t1, fun c h1 => ?_, hsh.trans (t2.mono (by omega) (Nat.le_refl _)), hf.trans hf1⟩
        by_cases hca : c < a
        · exact (hok c h1 hca).keep t2 (.inl (dvd_step h1 hda hca))
        · by_cases hce : c = a
          · subst hce
            refine ⟨fun i j k1 k2 k3 => t3 i j k1 k2 (by omega), fun k k1 k2 k3 => ?_⟩
            obtain ⟨j, j1, j2, j3⟩ := t2.2.1 k k1 k3
            rw [j3, hid' j j1]
            omega
          · have := dvd_step hda h1 (by omega)
            exact Ok.far (by omega)
      clear hT1 hf1
      go_wp2_with fail
      go_loopw [6, 7, 8] (fun x u v wr => ∃ (B : Nat) (ρ : Nat → Nat), 20 ≤ B ∧ B ≤ 2000 ∧ x = .int .i64 (B : Int) ∧ Trow wr g n (fun k => F (ρ k)) ∧ (∀ c, B ∣ c → Ok (fun k => (F k).w) n ρ c (c + B)) ∧ Shuf 0 n id ρ ∧ Fr [g] w wr) (fun x _ _ _ => 2001 - (intOf x).toNat)
      case atStart =>
        obtain ⟨ρ, h1, h2, h3, h4⟩ := H1.out
        exact ⟨20, ρ, by omega, by omega, rfl, h1, h2, h3, h4⟩
      case round =>
        obtain ⟨B, ρ, hB0, hB1, rfl, hT, hok, hsh, hf⟩ := hrel
        have hB0' : 20 ≤ (B : Int) := by omega
        have hB1' : (B : Int) ≤ 2000 := by omega
        by_cases hBn : B < n
        · obtain ⟨D, hD⟩ : ∃ D, 2 * B = D := ⟨_, rfl⟩
          have hBn' : (B : Int) < (n : Int) := by omega
          have eD : 2 * (B : Int) = (D : Int) := by omega
          have eD2 : (B : Int) * 2 = (D : Int) := by omega
          have hD' : (D : Int) ≤ 2000 := by omega
          have HS := Lib.hid (And.intro hT (And.intro hok (And.intro hsh (And.intro hf hD))))
          clear hT hok hsh hf hD
          go_wp2_with fail
          obtain ⟨wo, hwo⟩ : ∃ wo, wo = wr := ⟨wr, rfl⟩
          subst hwo
          go_loopw [7, 8] (fun u v wr => ∃ (a b : Nat) (τ : Nat → Nat), a ≤ n ∧ a + D = b ∧ D ∣ a ∧ u = .int .i64 (a : Int) ∧ v = .int .i64 (b : Int) ∧ Trow wr g n (fun k => F (τ k)) ∧ (∀ c, D ∣ c → c < a → Ok (fun k => (F k).w) n τ c (c + D)) ∧ (∀ c, B ∣ c → a ≤ c → Ok (fun k => (F k).w) n τ c (c + B)) ∧ Shuf 0 n id τ ∧ Fr [g] w wr) (fun u _ _ => n - (intOf u).toNat)
          case atStart =>
            obtain ⟨hT, hok, hsh, hf, hD⟩ := HS.out
            exact ⟨0, D, ρ, by omega, by omega, ⟨0, rfl⟩, rfl, rfl, hT, fun c _ h => by omega, fun c h _ => hok c h, hsh, hf⟩
          case round =>
            obtain ⟨a, b, τ, han, hab, hda, rfl, rfl, hT, hk1, hk2, hsh, hf⟩ := hrel
            obtain ⟨m, hm⟩ : ∃ m, a + B = m := ⟨_, rfl⟩
            have em : (a : Int) + (B : Int) = (m : Int) := by omega
            have hD2 := HS.out.2.2.2.2
            have hBa : B ∣ a := Nat.dvd_trans ⟨2, by omega⟩ hda
            have hBm : B ∣ m := by rw [← hm]; exact Nat.dvd_add hBa (Nat.dvd_refl _)
            have hka := hk2 a hBa (Nat.le_refl _)
            have hkm := hk2 m hBm (by omega)
            rw [hm] at hka
            rw [show m + B = b by omega] at hkm
            have hmn : (m : Int) ≤ 5000 := by omega
            have hbn : (b : Int) ≤ 5000 := by omega
            by_cases hlt : b ≤ n
            · have hli : (b : Int) ≤ (n : Int) := by omega
              obtain ⟨b2, hb2⟩ : ∃ b2, b + D = b2 := ⟨_, rfl⟩
              have eb2 : (b : Int) + (D : Int) = (b2 : Int) := by omega
              have htwo := hka.two hkm (by omega) (by omega)
              rw [Nat.min_eq_left hlt] at htwo
              have HC := Lib.hid (merge_ok (b - a) q H.out.2.1 g n c a m b F τ wr hT HN.out (by omega) (by omega) hlt H.out.2.2 htwo (Nat.le_refl _))
              have HK := Lib.hid (And.intro hk1 (And.intro hk2 (And.intro hsh (And.intro hf (And.intro hda (And.intro hka (And.intro hkm (And.intro hab (And.intro hm hb2)))))))))
              clear hT hk1 hk2 hsh hf hda hka hkm htwo hBa hBm hab hm hb2 hD2
              go_wp2_with fail
              refine HC.out.mono ?_
              rintro e1 w1 ⟨rfl, hf1, hT1⟩
              have H1 := Lib.hid (And.intro hT1 hf1)
              clear hT1 hf1
              go_wp2_with fail
              go_roundw
              case rel =>
                obtain ⟨⟨α, t1, t2, t3⟩, hf1⟩ := H1.out
                obtain ⟨hk1, hk2, hsh, hf, hda, hka, hkm, hab, hm, hb2⟩ := HK.out
                have hdb : D ∣ b := by rw [← hab]; exact Nat.dvd_add hda (Nat.dvd_refl _)
                refine ⟨b, b2, α, hlt, hb2, hdb, rfl, rfl, t1, fun c h1 h2 => ?_, fun c h1 h2 => ?_, hsh.trans (t2.mono (by omega) hlt), hf.trans hf1⟩
                · by_cases hca : c < a
                  · exact (hk1 c h1 hca).keep t2 (.inl (dvd_step h1 hda hca))
                  · have hce : c = a := by
                      have := fun h => dvd_step hda h1 h
                      omega
                    rw [hce, hab]
                    rw [← Nat.min_eq_left hlt] at t2 t3
                    exact hka.merged hkm (by omega) (by omega) t2 t3
                · exact (hk2 c h1 (by omega)).keep t2 (.inr h2)
              case measure => simp [intOf]; have := HK.out.2.2.2.2.2.2.2.1; omega
            · have hli : (n : Int) < (b : Int) := by omega
              by_cases hmn2 : m < n
              · have hmn' : (m : Int) < (n : Int) := by omega
                have htwo := hka.two hkm hmn2 (by omega)
                rw [Nat.min_eq_right (by omega)] at htwo
                have HC := Lib.hid (merge_ok (n - a) q H.out.2.1 g n c a m n F τ wr hT HN.out (by omega) hmn2 (Nat.le_refl _) H.out.2.2 htwo (Nat.le_refl _))
                have HK := Lib.hid (And.intro hk1 (And.intro hk2 (And.intro hsh (And.intro hf (And.intro hda (And.intro hka (And.intro hkm (And.intro hab (And.intro hm (And.intro hlt hD2))))))))))
                clear hT hk1 hk2 hsh hf hda hka hkm htwo hBa hBm hab hm hlt hD2
                go_wp2_with fail
                refine HC.out.mono ?_
                rintro e1 w1 ⟨rfl, hf1, hT1⟩
                have H2 := Lib.hid (And.intro hT1 hf1)
                clear hT1 hf1
                go_wp2_with fail
                go_roundw
                case rel =>
                  obtain ⟨⟨α, t1, t2, t3⟩, hf1⟩ := H2.out
                  obtain ⟨hk1, hk2, hsh, hf, hda, hka, hkm, hab, hm, hlt, hD2⟩ := HK.out
                  refine ⟨D, α, by omega, by omega, rfl, t1, fun c h1 => ?_, hsh.trans (t2.mono (by omega) (Nat.le_refl _)), hf.trans hf1⟩
                  by_cases hca : c < a
                  · exact (hk1 c h1 hca).keep t2 (.inl (dvd_step h1 hda hca))
                  · by_cases hce : c = a
                    · rw [hce, hab]
                      rw [← Nat.min_eq_right (show n ≤ b by omega)] at t2 t3
                      exact hka.merged hkm (by omega) (by omega) t2 t3
                    · have := dvd_step hda h1 (by omega)
                      exact Ok.far (by omega)
                case measure => simp [intOf]; have := HK.out.2.2.2.2.2.2.2.2.2.2; omega
              · have hmn' : (n : Int) ≤ (m : Int) := by omega
                have HK := Lib.hid (And.intro hT (And.intro hk1 (And.intro hsh (And.intro hf (And.intro hda (And.intro hka (And.intro hab (And.intro hm (And.intro hlt hD2)))))))))
                clear hT hk1 hk2 hsh hf hda hka hkm hBa hBm hab hm hlt hD2
                go_wp2_with fail
                go_roundw
                case rel =>
                  obtain ⟨hT, hk1, hsh, hf, hda, hka, hab, hm, hlt, hD2⟩ := HK.out
                  refine ⟨D, τ, by omega, by omega, rfl, hT, fun c h1 => ?_, hsh, hf⟩
                  by_cases hca : c < a
                  · exact hk1 c h1 hca
                  · by_cases hce : c = a
                    · rw [hce, hab]
                      exact hka.wide (by omega) (by omega)
                    · have := dvd_step hda h1 (by omega)
                      exact Ok.far (by omega)
                case measure => simp [intOf]; have := HK.out.2.2.2.2.2.2.2.2.2; omega
        · have hBn' : (n : Int) ≤ (B : Int) := by omega
          have hso := (hok 0 ⟨0, by simp⟩).1
          rw [Nat.min_eq_right (by omega)] at hso
          have HS := Lib.hid (And.intro hT (And.intro hsh (And.intro hso hf)))
          clear hT hok hsh hf hso
          go_wp2_with fail
          refine bodyPost_end (v := .tuple #[]) (by simp [results, Try.results85, go_sem]) rfl ?_
          exact ⟨rfl, HS.out.2.2.2, ρ, HS.out.1, HS.out.2.1, HS.out.2.2.1⟩
/-- Things in order. -/
theorem sort_any (q : FuncId) (hq : CmpOk q) (g n c : Nat) (F : Nat → Th) (w : World) (h : Trow w g n F) (hn : n ≤ 1000) (hW : ∀ k, (F k).w ≤ 1000000000000000) :
    Calls Try.prog 72 #[.slice (some ⟨g, 0, none⟩) n c, .func (.func q) #[] #[]] w fun e w' => e = .returned (.tuple #[]) ∧ Fr [g] w w' ∧ ∃ τ, Trow w' g n (fun k => F (τ k)) ∧ Shuf 0 n id τ ∧ SortedS (fun k => (F k).w) τ 0 n := by
  have HC := Lib.hid (stable_any q hq g n c F w h hn hW)
  clear h hq hW
  go_enter Try.func72, Try.ntmps72
  go_wp2_with fail
  refine HC.out.mono ?_
  rintro e1 w1 ⟨rfl, hf1, hT1⟩
  have H1 := Lib.hid (And.intro hT1 hf1)
  clear hT1 hf1
  go_wp2_with fail
  refine bodyPost_end (v := .tuple #[]) (by simp [results, Try.results72, go_sem]) rfl ?_
  exact ⟨rfl, H1.out.2, H1.out.1⟩
end Go.Proofs.Ytciejmlhdmjajaa

