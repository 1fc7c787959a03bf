/- Merging in place: symMergeCmpFunc, as a whole. -/
import Derived.Test.YtciejmlhdmjajaaKSe
import Derived.Deep.CutRange
namespace Go.Proofs.Ytciejmlhdmjajaa
open Go.RowKit
set_option linter.unusedVariables false
set_option linter.unusedSimpArgs false

/-- The contract of merging, for ranges of no more than N. -/
def MergeOk (N : Nat) : Prop := ∀ (q : FuncId) (hq : CmpOk q) (g n c a m b : Nat) (F : Nat → Th) (σ : Nat → Nat) (w : World) (h : Trow w g n (fun k => F (σ k))) (hn : n ≤ 1000) (ham : a < m) (hmb : m < b) (hb : b ≤ n) (hW : ∀ k, (F k).w ≤ 1000000000000000) (hT : Two (fun k => (F k).w) σ a m b) (hN : b - a ≤ N),
    Calls Try.prog 95 #[.slice (some ⟨g, 0, none⟩) n c, .int .i64 (a : Int), .int .i64 (m : Int), .int .i64 (b : Int), .func (.func q) #[] #[]] w fun e w' => e = .returned (.tuple #[]) ∧ Fr [g] w w' ∧ ∃ τ, Trow w' g n (fun k => F (τ k)) ∧ Shuf a b σ τ ∧ SortedS (fun k => (F k).w) τ a b

set_option maxRecDepth 2000000 in
set_option maxHeartbeats 12800000 in
theorem merge_gen (N : Nat) (IH : MergeOk N) (q : FuncId) (hq : CmpOk q) (g n c a m b : Nat) (F : Nat → Th) (σ : Nat → Nat) (w : World) (h : Trow w g n (fun k => F (σ k))) (hn : n ≤ 1000) (ham : a + 1 < m) (hmb : m + 1 < b) (hb : b ≤ n) (hW : ∀ k, (F k).w ≤ 1000000000000000) (hT : Two (fun k => (F k).w) σ a m b) (hN : b - a ≤ N + 1) :
    Calls Try.prog 95 #[.slice (some ⟨g, 0, none⟩) n c, .int .i64 (a : Int), .int .i64 (m : Int), .int .i64 (b : Int), .func (.func q) #[] #[]] w fun e w' => e = .returned (.tuple #[]) ∧ Fr [g] w w' ∧ ∃ τ, Trow w' g n (fun k => F (τ k)) ∧ Shuf a b σ τ ∧ SortedS (fun k => (F k).w) τ a b := by
  have i1 : (n : Int) ≤ 1000 := by omega
  have i2 : (a : Int) + 1 < (m : Int) := by omega
  have i3 : (m : Int) + 1 < (b : Int) := by omega
  have i4 : (b : Int) ≤ (n : Int) := by omega
  have j1 : ((m : Int) - (a : Int) == 1) = false := by simp; omega
  have j2 : ¬ (m : Int) - (a : Int) = 1 := by omega
  have j3 : ((b : Int) - (m : Int) == 1) = false := by simp; omega
  have j4 : ¬ (b : Int) - (m : Int) = 1 := by omega
  obtain ⟨d, hd⟩ : ∃ d, d = (a + b) / 2 := ⟨_, rfl⟩
  obtain ⟨s0, r0, h0⟩ : ∃ s0 r0, d < m ∧ s0 = d + m - b ∧ r0 = d ∨ m ≤ d ∧ s0 = a ∧ r0 = m := by
    by_cases hdm : d < m
    · exact ⟨_, _, .inl ⟨hdm, rfl, rfl⟩⟩
    · exact ⟨_, _, .inr ⟨by omega, rfl, rfl⟩⟩
  obtain ⟨nn, hnn⟩ : ∃ nn, nn = d + m := ⟨_, rfl⟩
  obtain ⟨p, hp⟩ : ∃ p, p = nn - 1 := ⟨_, rfl⟩
  have ed : ((a : Int) + (b : Int)) / 2 = (d : Int) := by omega
  have en : (d : Int) + (m : Int) = (nn : Int) := by omega
  have ep : (nn : Int) - 1 = (p : Int) := by omega
  have k1 : (nn : Int) ≤ 2000 := by omega
  have k2 : (d : Int) ≤ (b : Int) := by omega
  have H := Lib.hid (And.intro h (And.intro hq (And.intro hW hT)))
  have HI := Lib.hid (And.intro IH hN)
  have HD := Lib.hid (And.intro hd (And.intro h0 (And.intro hnn hp)))
  have HN := Lib.hid hn
  clear h hq hW hT hn IH hN hd h0 hnn hp
  go_enter Try.func95, Try.ntmps95
  go_upto_if 140 with fail
  go_cut [20, 21] from 141 to 146 (fun s r wx => s = .int .i64 (s0 : Int) ∧ r = .int .i64 (r0 : Int) ∧ wx = w)
  case first =>
    obtain ⟨hd, h0, hnn, hp⟩ := HD.out
    rcases h0 with ⟨h1, h2, h3⟩ | ⟨h1, h2, h3⟩
    · have z1 : (d : Int) < (m : Int) := by omega
      have z2 : (nn : Int) - (b : Int) = (s0 : Int) := by omega
      have z3 : (d : Int) = (r0 : Int) := by omega
      have Z3 := Lib.hid z3
      clear hd hnn hp h1 h2 h3 z3
      go_wp2_with fail
      go_meet
      case rel => exact ⟨rfl, by rw [Z3.out], rfl⟩
    · have z1 : (m : Int) ≤ (d : Int) := by omega
      have z2 : (a : Int) = (s0 : Int) := by omega
      have z3 : (m : Int) = (r0 : Int) := by omega
      have Z3 := Lib.hid (And.intro z2 z3)
      clear hd hnn hp h1 h2 h3 z2 z3
      go_wp2_with fail
      go_meet
      case rel => exact ⟨by rw [Z3.out.1], by rw [Z3.out.2], rfl⟩
  case rest =>
  obtain ⟨rfl, rfl, hwc⟩ := hcut
  replace hwc := hwc.symm
  subst hwc
  go_wp2_with fail
  go_loopw [20, 21] (fun u v wr => ∃ (i j : Nat), s0 ≤ i ∧ i ≤ j ∧ j ≤ r0 ∧ u = .int .i64 (i : Int) ∧ v = .int .i64 (j : Int) ∧ (∀ k, s0 ≤ k → k < i → (F (σ k)).w ≤ (F (σ (d + m - 1 - k))).w) ∧ (∀ k, j ≤ k → k < r0 → (F (σ (d + m - 1 - k))).w < (F (σ k)).w) ∧ Fr [] w wr) (fun u v _ => (intOf v).toNat - (intOf u).toNat)
  case atStart =>
    obtain ⟨hd, h0, hnn, hp⟩ := HD.out
    exact ⟨s0, r0, Nat.le_refl _, by omega, Nat.le_refl _, rfl, rfl, fun k h1 h2 => by omega, fun k h1 h2 => by omega, Fr.refl _ _⟩
  case round =>
    obtain ⟨i, j, hsi, hij, hjr, rfl, rfl, pp, rr, hf⟩ := hrel
    by_cases hlt : i < j
    · obtain ⟨hd, h0, hnn, hp⟩ := HD.out
      have hli : (i : Int) < (j : Int) := by omega
      have hji : (j : Int) ≤ (b : Int) := by omega
      obtain ⟨x, hx⟩ : ∃ x, (i + j) / 2 = x := ⟨_, rfl⟩
      obtain ⟨y, hy⟩ : ∃ y, d + m - 1 - x = y := ⟨_, rfl⟩
      have ex : ((i : Int) + (j : Int)) / 2 = (x : Int) := by omega
      have ey : (p : Int) - (x : Int) = (y : Int) := by omega
      have hxi : i ≤ x := by omega
      have hxj : x < j := by omega
      have hax : a ≤ x := by omega
      have hxm : x < m := by omega
      have hmy : m ≤ y := by omega
      have hyb : y < b := by omega
      have hT0 := H.out.1.to hf (by simp)
      have d0 := hT0.c0 x (by omega)
      have d1 := hT0.c1 x (by omega)
      have d2 := hT0.c2 x (by omega)
      have e0 := hT0.c0 y (by omega)
      have e1 := hT0.c1 y (by omega)
      have e2 := hT0.c2 y (by omega)
      have hgl := hT0.lt
      have hxn : (x : Int) < (n : Int) := by omega
      have han : (y : Int) < (n : Int) := by omega
      have hcm := fun W => H.out.2.1.2 (F (σ y)) (F (σ x)) W (H.out.2.2.1 _) (H.out.2.2.1 _)
      obtain ⟨⟨pw, ps, pt⟩, hP⟩ : ∃ z, F (σ x) = z := ⟨_, rfl⟩
      obtain ⟨⟨qw, qs, qt⟩, hQ⟩ : ∃ z, F (σ y) = z := ⟨_, rfl⟩
      simp only [hP, hQ] at d0 d1 d2 e0 e1 e2 hcm
      have HS := Lib.hid (And.intro pp (And.intro rr (And.intro hf (And.intro hP (And.intro hQ hy)))))
      unfold tv at hcm
      have HC := Lib.hid hcm
      clear pp rr hf hx hT0 hcm hP hQ hy hd h0 hnn hp
      by_cases hcl : qw < pw
      · rw [cmp_neg hcl] at HC
        have HCL := Lib.hid hcl
        clear hcl
        go_wp2_with fail
        refine wp_region_quiet_tail 11 (by kernel_rfl) (by kernel_rfl) ?_
        simp only [List.take_succ_cons, List.take_zero, List.drop_succ_cons, List.drop_zero]
        repeat go_big_quiet_step (fail)
        refine wpQuiet_nil ?_
        have hen := H.out.2.1.1
        go_wp2_with fail
        refine (HC.out _).mono ?_
        rintro e w5 ⟨rfl, f5⟩
        have H5 := Lib.hid ((Fr.drew (Fr.refl [] wr)).trans f5)
        clear f5 hen
        go_wp2_with fail
        go_roundw
        case rel =>
          obtain ⟨pp, rr, hf, hP, hQ, hy⟩ := HS.out
          obtain ⟨hd, h0, hnn, hp⟩ := HD.out
          refine ⟨i, x, by omega, by omega, by omega, rfl, rfl, pp, fun k h1 h2 => ?_, hf.trans H5.out⟩
          have l1 := H.out.2.2.2.l.le hax h1 (by omega)
          have l2 := H.out.2.2.2.r.le (show m ≤ d + m - 1 - k by omega) (show d + m - 1 - k ≤ y by omega) hyb
          have h3 := HCL.out
          simp only [hP, hQ] at l1 l2
          omega
        case measure => simp [intOf]; omega
      · obtain ⟨hc0, hc1⟩ := cmp_pos hcl
        obtain ⟨cr, hcr⟩ : ∃ cr, cmpI qw pw = cr := ⟨_, rfl⟩
        rw [hcr] at HC hc0 hc1
        have hnb : decide (cr < 0) = false := by simp; omega
        have HCL := Lib.hid hcl
        clear hcl hcr
        go_wp2_with fail
        refine wp_region_quiet_tail 11 (by kernel_rfl) (by kernel_rfl) ?_
        simp only [List.take_succ_cons, List.take_zero, List.drop_succ_cons, List.drop_zero]
        repeat go_big_quiet_step (fail)
        refine wpQuiet_nil ?_
        have hen := H.out.2.1.1
        go_wp2_with fail
        refine (HC.out _).mono ?_
        rintro e w5 ⟨rfl, f5⟩
        have H5 := Lib.hid ((Fr.drew (Fr.refl [] wr)).trans f5)
        clear f5 hen
        go_wp2_with fail
        go_roundw
        case rel =>
          obtain ⟨pp, rr, hf, hP, hQ, hy⟩ := HS.out
          obtain ⟨hd, h0, hnn, hp⟩ := HD.out
          refine ⟨x + 1, j, by omega, by omega, by omega, by go_num, rfl, fun k h1 h2 => ?_, rr, hf.trans H5.out⟩
          have l1 := H.out.2.2.2.l.le (show a ≤ k by omega) (show k ≤ x by omega) hxm
          have l2 := H.out.2.2.2.r.le hmy (show y ≤ d + m - 1 - k by omega) (by omega)
          have h3 := HCL.out
          simp only [hP, hQ] at l1 l2
          omega
        case measure => simp [intOf]; omega
    · obtain rfl : i = j := by omega
      obtain ⟨hd, h0, hnn, hp⟩ := HD.out
      obtain ⟨g1, g2, g3, g4, g5, g6, hcut⟩ := H.out.2.2.2.sym (by omega) (by omega) s0 r0 i d hd h0 hsi hjr pp rr
      obtain ⟨e, he⟩ : ∃ e, d + m - i = e := ⟨_, rfl⟩
      rw [he] at g3 g4 g6 hcut
      have ee : (nn : Int) - (i : Int) = (e : Int) := by omega
      have hdb : d < b := by omega
      have had : a < d := by omega
      have q1 : (i : Int) ≤ (m : Int) := by omega
      have q2 : (m : Int) ≤ (e : Int) := by omega
      have q3 : (e : Int) ≤ (b : Int) := by omega
      have q4 : (i : Int) ≤ (d : Int) := by omega
      have q5 : (d : Int) ≤ (e : Int) := by omega
      have q6 : (a : Int) ≤ (i : Int) := by omega
      have HS := Lib.hid (And.intro hf (And.intro hcut he))
      clear pp rr hf hcut he hd h0 hnn hp
      go_upto_region 39 with fail
      go_cut [185] from 178 to 184 (fun t wx => t = .bool (decide (i < m ∧ m < e)) ∧ wx = wr)
      case first =>
        by_cases c1 : i < m
        · have z1 : (i : Int) < (m : Int) := by omega
          by_cases c2 : m < e
          · have z2 : (m : Int) < (e : Int) := by omega
            go_wp2_with fail
            go_meet
            case rel => exact ⟨by simp [c1, c2], rfl⟩
          · have z2 : (e : Int) ≤ (m : Int) := by omega
            go_wp2_with fail
            go_meet
            case rel => exact ⟨by simp [c1, c2], rfl⟩
        · have z1 : (m : Int) ≤ (i : Int) := by omega
          go_wp2_with fail
          go_meet
          case rel => exact ⟨by simp [c1], rfl⟩
      case rest =>
      obtain ⟨rfl, hwc⟩ := hcut
      replace hwc := hwc.symm
      subst hwc
      go_upto_if 185 with fail
      go_cut [] from 185 to 191 (fun wx => Trow wx g n (fun k => F (rotF σ i m e k)) ∧ Fr [g] w wx)
      case first =>
        by_cases c1 : i < m ∧ m < e
        · rw [decide_eq_true c1]
          have HC := Lib.hid (rotate_any g n c i m e _ wr (H.out.1.to HS.out.1 (by simp)) HN.out c1.1 c1.2 (by omega) (.func (.func q) #[] #[]))
          go_wp2_with fail
          refine HC.out.mono ?_
          rintro e1 w1 ⟨rfl, hT1, hf1⟩
          have H1 := Lib.hid (And.intro hT1 hf1)
          clear hT1 hf1
          go_wp2_with fail
          go_meet
          case rel => exact ⟨H1.out.1.congr fun k _ => (rot_comp F σ i m e k).symm, HS.out.1.nil.trans H1.out.2⟩
        · rw [decide_eq_false c1]
          have hor : i = m ∨ e = m := by omega
          have HO := Lib.hid hor
          clear hor
          go_wp2_with fail
          go_meet
          case rel => exact ⟨(H.out.1.to HS.out.1 (by simp)).congr fun k _ => by rw [rot_same σ i m e HO.out g2 g3 k], HS.out.1.nil⟩
      case rest =>
      obtain ⟨hTc, hfc⟩ := hcut
      obtain ⟨ρ, hρ⟩ : ∃ ρ, rotF σ i m e = ρ := ⟨_, rfl⟩
      rw [hρ] at hTc HS
      have HR := Lib.hid (And.intro hTc hfc)
      clear hTc hfc hρ
      go_upto_region 41 with fail
      go_cut [199] from 192 to 198 (fun t wx => t = .bool (decide (a < i ∧ i < d)) ∧ wx = wc)
      case first =>
        by_cases c1 : a < i
        · have z1 : (a : Int) < (i : Int) := by omega
          by_cases c2 : i < d
          · have z2 : (i : Int) < (d : Int) := by omega
            go_wp2_with fail
            go_meet
            case rel => exact ⟨by simp [c1, c2], rfl⟩
          · have z2 : (d : Int) ≤ (i : Int) := by omega
            go_wp2_with fail
            go_meet
            case rel => exact ⟨by simp [c1, c2], rfl⟩
        · have z1 : (i : Int) ≤ (a : Int) := by omega
          go_wp2_with fail
          go_meet
          case rel => exact ⟨by simp [c1], rfl⟩
      case rest =>
      obtain ⟨rfl, hwc⟩ := hcut
      replace hwc := hwc.symm
      subst hwc
      go_upto_if 199 with fail
      go_cut [] from 199 to 205 (fun wx => ∃ α, Trow wx g n (fun k => F (α k)) ∧ Shuf a d ρ α ∧ SortedS (fun k => (F k).w) α a d ∧ Fr [g] w wx)
      case first =>
        by_cases c1 : a < i ∧ i < d
        · rw [decide_eq_true c1]
          have HC := Lib.hid (HI.out.1 q H.out.2.1 g n c a i d F ρ _ HR.out.1 HN.out c1.1 c1.2 (by omega) H.out.2.2.1 ⟨HS.out.2.1.s1, HS.out.2.1.s2, HS.out.2.1.t1⟩ (by have := HI.out.2; omega))
          go_wp2_with fail
          refine HC.out.mono ?_
          rintro e1 w1 ⟨rfl, hf1, hT1⟩
          have H1 := Lib.hid (And.intro hT1 hf1)
          clear hT1 hf1
          go_wp2_with fail
          go_meet
          case rel =>
            obtain ⟨α, t1, t2, t3⟩ := H1.out.1
            exact ⟨α, t1, t2, t3, HR.out.2.trans H1.out.2⟩
        · rw [decide_eq_false c1]
          have HO := Lib.hid c1
          clear c1
          go_wp2_with fail
          go_meet
          case rel =>
            have c1 := HO.out
            have hc := HS.out.2.1
            refine ⟨ρ, HR.out.1, Shuf.refl _ _ _, ?_, HR.out.2⟩
            by_cases c2 : a < i
            · have : i = d := by omega
              rw [← this]
              exact hc.s1
            · have : i = a := by omega
              rw [← this]
              exact hc.s2
      case rest =>
      obtain ⟨α, hTc, hsh, hso, hfc⟩ := hcut
      have HA := Lib.hid (And.intro hTc (And.intro hsh (And.intro hso hfc)))
      clear hTc hsh hso hfc
      go_upto_region 43 with fail
      go_cut [213] from 206 to 212 (fun t wx => t = .bool (decide (d < e ∧ e < b)) ∧ wx = wc)
      case first =>
        by_cases c1 : d < e
        · have z1 : (d : Int) < (e : Int) := by omega
          by_cases c2 : e < b
          · have z2 : (e : Int) < (b : Int) := by omega
            go_wp2_with fail
            go_meet
            case rel => exact ⟨by simp [c1, c2], rfl⟩
          · have z2 : (b : Int) ≤ (e : Int) := by omega
            go_wp2_with fail
            go_meet
            case rel => exact ⟨by simp [c1, c2], rfl⟩
        · have z1 : (e : Int) ≤ (d : Int) := by omega
          go_wp2_with fail
          go_meet
          case rel => exact ⟨by simp [c1], rfl⟩
      case rest =>
      obtain ⟨rfl, hwc⟩ := hcut
      replace hwc := hwc.symm
      subst hwc
      by_cases c1 : d < e ∧ e < b
      · rw [decide_eq_true c1]
        have hc := HS.out.2.1
        have h3 : SortedS (fun k => (F k).w) α d e := hc.s3.congr fun k k1 k2 => HA.out.2.1.1 k (by omega)
        have h4 : SortedS (fun k => (F k).w) α e b := hc.s4.congr fun k k1 k2 => HA.out.2.1.1 k (by omega)
        have h5 : ∀ i j, d ≤ i → i < e → e ≤ j → j < b → α i < α j := fun i j k1 k2 k3 k4 => by
          rw [HA.out.2.1.1 i (by omega), HA.out.2.1.1 j (by omega)]
          exact hc.t2 i j k1 k2 k3 k4
        have HC := Lib.hid (HI.out.1 q H.out.2.1 g n c d e b F α _ HA.out.1 HN.out c1.1 c1.2 (by omega) H.out.2.2.1 ⟨h3, h4, h5⟩ (by have := HI.out.2; omega))
        clear hc h3 h4 h5
        go_wp2_with fail
        refine HC.out.mono ?_
        rintro e1 w1 ⟨rfl, hf1, hT1⟩
        have H1 := Lib.hid (And.intro hT1 hf1)
        clear hT1 hf1
        go_wp2_with fail
        refine bodyPost_end (v := .tuple #[]) (by simp [results, Try.results95, go_sem]) rfl ?_
        obtain ⟨τ, t1, t2, t3⟩ := H1.out.1
        exact ⟨rfl, HA.out.2.2.2.trans H1.out.2, τ, t1, HS.out.2.1.merged (by omega) (by omega) HA.out.2.1 t2 HA.out.2.2.1 t3⟩
      · rw [decide_eq_false c1]
        have HO := Lib.hid c1
        clear c1
        go_wp2_with fail
        refine bodyPost_end (v := .tuple #[]) (by simp [results, Try.results95, go_sem]) rfl ?_
        have c1 := HO.out
        have hc := HS.out.2.1
        refine ⟨rfl, HA.out.2.2.2, α, HA.out.1, hc.merged (by omega) (by omega) HA.out.2.1 (Shuf.refl _ _ _) HA.out.2.2.1 ?_⟩
        by_cases c2 : d < e
        · have : e = b := by omega
          rw [← this]
          exact hc.s3.congr fun k k1 k2 => HA.out.2.1.1 k (by omega)
        · have : e = d := by omega
          rw [← this]
          exact hc.s4.congr fun k k1 k2 => HA.out.2.1.1 k (by omega)
theorem merge_ok (N : Nat) : MergeOk N := by
  induction N with
  | zero => intro q hq g n c a m b F σ w h hn ham hmb hb hW hT hN; omega
  | succ N ih =>
    intro q hq g n c a m b F σ w h hn ham hmb hb hW hT hN
    by_cases h1 : m = a + 1
    · exact merge_left q hq g n c a m b F σ w h hn h1 hmb hb hW hT
    · by_cases h2 : b = m + 1
      · exact merge_right q hq g n c a m b F σ w h hn (by omega) h2 hb hW hT
      · exact merge_gen N ih q hq g n c a m b F σ w h hn (by omega) (by omega) hb hW hT hN
end Go.Proofs.Ytciejmlhdmjajaa

