/- Merging in place: symMergeCmpFunc where one range is one thing. Merging in place: symMergeCmpFunc where the right range is one thing. -/
import Derived.Test.YtciejmlhdmjajaaKSc
namespace Go.Proofs.Ytciejmlhdmjajaa
open Go.RowKit
set_option linter.unusedVariables false
set_option linter.unusedSimpArgs false

set_option maxRecDepth 2000000 in
set_option maxHeartbeats 6400000 in
theorem merge_left (q : FuncId) (hq : CmpOk q) (g n c a m b : Nat) (F : Nat → Th) (σ : Nat → Nat) (w : World) (h : Trow w g n (fun k => F (σ k))) (hn : n ≤ 1000) (hm : m = a + 1) (hmb : m < b) (hb : b ≤ n) (hW : ∀ k, (F k).w ≤ 1000000000000000) (hT : Two (fun k => (F k).w) σ a m b) :
    Calls Try.prog 95 #[.slice (some ⟨g, 0, none⟩) n c, .int .i64 (a : Int), .int .i64 (m : Int), .int .i64 (b : Int), .func (.func q) #[] #[]] w fun e w' => e = .returned (.tuple #[]) ∧ Fr [g] w w' ∧ ∃ τ, Trow w' g n (fun k => F (τ k)) ∧ Shuf a b σ τ ∧ SortedS (fun k => (F k).w) τ a b := by
  have i1 : (n : Int) ≤ 1000 := by omega
  have i2 : (m : Int) - (a : Int) = 1 := by omega
  have i3 : (m : Int) < (b : Int) := by omega
  have i4 : (b : Int) ≤ (n : Int) := by omega
  have H := Lib.hid (And.intro h (And.intro hq (And.intro hW hT)))
  have HM := Lib.hid hm
  clear h hq hW hT hn hm
  go_enter Try.func95, Try.ntmps95
  go_wp2_with fail
  go_loopw [10, 11] (fun u v wr => ∃ (i j : Nat), m ≤ i ∧ i ≤ j ∧ j ≤ b ∧ u = .int .i64 (i : Int) ∧ v = .int .i64 (j : Int) ∧ (∀ k, m ≤ k → k < i → (F (σ k)).w < (F (σ a)).w) ∧ (∀ k, j ≤ k → k < b → (F (σ a)).w ≤ (F (σ k)).w) ∧ Fr [] w wr) (fun u v _ => (intOf v).toNat - (intOf u).toNat)
  case atStart => exact ⟨m, b, Nat.le_refl _, by omega, Nat.le_refl _, rfl, rfl, fun k h1 h2 => by omega, fun k h1 h2 => by omega, Fr.refl _ _⟩
  case round =>
    obtain ⟨i, j, hmi, hij, hjb, rfl, rfl, p, r, hf⟩ := hrel
    by_cases hlt : i < j
    · have hli : (i : Int) < (j : Int) := by omega
      have hji : (j : Int) ≤ (b : Int) := by omega
      obtain ⟨x, hx⟩ : ∃ x, (i + j) / 2 = x := ⟨_, rfl⟩
      have ex : ((i : Int) + (j : Int)) / 2 = (x : Int) := by omega
      have hxi : i ≤ x := by omega
      have hxj : x < j := by omega
      have hT0 := H.out.1.to hf (by simp)
      have d0 := hT0.c0 x (by omega)
      have d1 := hT0.c1 x (by omega)
      have d2 := hT0.c2 x (by omega)
      have e0 := hT0.c0 a (by omega)
      have e1 := hT0.c1 a (by omega)
      have e2 := hT0.c2 a (by omega)
      have hgl := hT0.lt
      have hxn : (x : Int) < (n : Int) := by omega
      have han : (a : Int) < (n : Int) := by omega
      have hcm := fun W => H.out.2.1.2 (F (σ x)) (F (σ a)) W (H.out.2.2.1 _) (H.out.2.2.1 _)
      obtain ⟨⟨pw, ps, pt⟩, hP⟩ : ∃ y, F (σ x) = y := ⟨_, rfl⟩
      obtain ⟨⟨qw, qs, qt⟩, hQ⟩ : ∃ y, F (σ a) = y := ⟨_, rfl⟩
      simp only [hP, hQ] at d0 d1 d2 e0 e1 e2 hcm
      have HS := Lib.hid (And.intro p (And.intro r (And.intro hf (And.intro hP hQ))))
      unfold tv at hcm
      have HC := Lib.hid hcm
      clear p r hf hx hT0 hcm hP hQ
      by_cases hcl : pw < qw
      · rw [cmp_neg hcl] at HC
        have HCL := Lib.hid hcl
        clear hcl
        go_wp2_with fail
        refine wp_region_quiet_tail 9 (by kernel_rfl) (by kernel_rfl) ?_
        simp only [List.take_succ_cons, List.take_zero, List.drop_succ_cons, List.drop_zero]
        repeat go_big_quiet_step (fail)
        refine wpQuiet_nil ?_
        have hen := H.out.2.1.1
        go_wp2_with fail
        refine (HC.out _).mono ?_
        rintro e w5 ⟨rfl, f5⟩
        have H5 := Lib.hid ((Fr.drew (Fr.refl [] wr)).trans f5)
        clear f5 hen
        go_wp2_with fail
        go_roundw
        case rel =>
          obtain ⟨p, r, hf, hP, hQ⟩ := HS.out
          refine ⟨x + 1, j, by omega, by omega, hjb, by go_num, rfl, fun k h1 h2 => ?_, r, hf.trans H5.out⟩
          have := H.out.2.2.2.r.le h1 (show k ≤ x by omega) (by omega)
          rw [hQ]
          have h3 := HCL.out
          simp only [hP] at this
          show _ < qw
          omega
        case measure => simp [intOf]; omega
      · obtain ⟨hc0, hc1⟩ := cmp_pos hcl
        obtain ⟨cr, hcr⟩ : ∃ cr, cmpI pw qw = cr := ⟨_, rfl⟩
        rw [hcr] at HC hc0 hc1
        have HCL := Lib.hid hcl
        clear hcl hcr
        go_wp2_with fail
        refine wp_region_quiet_tail 9 (by kernel_rfl) (by kernel_rfl) ?_
        simp only [List.take_succ_cons, List.take_zero, List.drop_succ_cons, List.drop_zero]
        repeat go_big_quiet_step (fail)
        refine wpQuiet_nil ?_
        have hen := H.out.2.1.1
        go_wp2_with fail
        refine (HC.out _).mono ?_
        rintro e w5 ⟨rfl, f5⟩
        have H5 := Lib.hid ((Fr.drew (Fr.refl [] wr)).trans f5)
        clear f5 hen
        go_wp2_with fail
        go_roundw
        case rel =>
          obtain ⟨p, r, hf, hP, hQ⟩ := HS.out
          refine ⟨i, x, by omega, by omega, by omega, rfl, rfl, p, fun k h1 h2 => ?_, hf.trans H5.out⟩
          have := H.out.2.2.2.r.le (show m ≤ x by omega) h1 h2
          rw [hQ]
          have h3 := HCL.out
          simp only [hP] at this
          show qw ≤ _
          omega
        case measure => simp [intOf]; omega
    · obtain rfl : i = j := by omega
      have HS := Lib.hid (And.intro p (And.intro r hf))
      clear p r hf
      have hip : 0 ≤ (i : Int) - 1 := by omega
      have hib : (i : Int) ≤ (b : Int) := by omega
      go_wp2_with fail
      obtain ⟨wo, hwo⟩ : ∃ wo, wo = wr := ⟨wr, rfl⟩
      subst hwo
      go_loopw [13] (fun v wr => ∃ (k : Nat), a ≤ k ∧ k + 1 ≤ i ∧ v = .int .i64 (k : Int) ∧ Trow wr g n (fun z => F (rotF σ a (a + 1) (k + 1) z)) ∧ Fr [g] wo wr) (fun v _ => i - (intOf v).toNat)
      case atStart =>
        have := HM.out
        refine ⟨a, Nat.le_refl _, by omega, rfl, (H.out.1.to HS.out.2.2 (by simp)).congr fun z _ => ?_, Fr.refl _ _⟩
        rw [rot_same σ a (a + 1) (a + 1) (.inr rfl) (by omega) (by omega)]
      case round =>
        obtain ⟨k, hak, hki, rfl, hT, hf⟩ := hrel
        have hm := HM.out
        by_cases hk : k + 1 < i
        · obtain ⟨y, hy⟩ : ∃ y, k + 1 = y := ⟨_, rfl⟩
          have ey : (k : Int) + 1 = (y : Int) := by omega
          have hkn : (k : Int) < (i : Int) - 1 := by omega
          have hk0 : (k : Int) < (n : Int) := by omega
          have hy0 : (y : Int) < (n : Int) := by omega
          have hsw := hT.swap k y (by omega) (by omega)
          have x0 := hT.c0 k (by omega)
          have x1 := hT.c1 k (by omega)
          have x2 := hT.c2 k (by omega)
          have y0 := hT.c0 y (by omega)
          have y1 := hT.c1 y (by omega)
          have y2 := hT.c2 y (by omega)
          have z0 := hT.fz (k * 3)
          have z1 := hT.fz (k * 3 + 1)
          have z2 := hT.fz (k * 3 + 2)
          have v0 := hT.fz (y * 3)
          have v1 := hT.fz (y * 3 + 1)
          have v2 := hT.fz (y * 3 + 2)
          have hne : k ≠ y := by omega
          obtain ⟨⟨pw, ps, pt⟩, hP⟩ : ∃ x, F (rotF σ a (a + 1) (k + 1) k) = x := ⟨_, rfl⟩
          obtain ⟨⟨qw, qs, qt⟩, hQ⟩ : ∃ x, F (rotF σ a (a + 1) (k + 1) y) = x := ⟨_, rfl⟩
          simp only [hP, hQ] at x0 x1 x2 y0 y1 y2 hsw
          have hfs := (putTh_fr wr g k ⟨qw, qs, qt⟩).trans (putTh_fr _ g y ⟨pw, ps, pt⟩)
          simp only [putTh] at hsw hfs
          have H5 := Lib.hid (And.intro hsw (And.intro hfs (And.intro hf hy)))
          clear hT hf hsw hfs hP hQ hm hy
          go_wp2_with fail
          go_region
          go_wp2_with fail
          go_roundw
          case rel =>
            obtain ⟨h1, h2, h3, h4⟩ := H5.out
            refine ⟨y, by omega, by omega, rfl, ?_, h3.trans (Fr.drew h2)⟩
            refine (h1.to (Fr.drew (Fr.refl [] _)) (by simp)).congr fun z _ => ?_
            rw [swapF_comp F (rotF σ a (a + 1) (k + 1)), ← h4, rot_up σ a k z hak]
          case measure => simp [intOf]; omega
        · have hkn : (i : Int) - 1 ≤ (k : Int) := by omega
          have hke : k + 1 = i := by omega
          rw [hke, ← hm] at hT
          have HK := Lib.hid (And.intro hT hf)
          clear hT hf hm hke
          go_wp2_with fail
          ((try simp only [Exit.inBlock, Exit.then]); refine bodyPost_ret (results_none rfl _ _ _) rfl ?_)
          exact ⟨rfl, HS.out.2.2.nil.trans HK.out.2, _, HK.out.1, H.out.2.2.2.one_left i HM.out hmi (by omega) HS.out.1 HS.out.2.1⟩
end Go.Proofs.Ytciejmlhdmjajaa
namespace Go.Proofs.Ytciejmlhdmjajaa
open Go.RowKit
set_option linter.unusedVariables false
set_option linter.unusedSimpArgs false

set_option maxRecDepth 2000000 in
set_option maxHeartbeats 6400000 in
theorem merge_right (q : FuncId) (hq : CmpOk q) (g n c a m b : Nat) (F : Nat → Th) (σ : Nat → Nat) (w : World) (h : Trow w g n (fun k => F (σ k))) (hn : n ≤ 1000) (ham : a + 1 < m) (hm : b = m + 1) (hb : b ≤ n) (hW : ∀ k, (F k).w ≤ 1000000000000000) (hT : Two (fun k => (F k).w) σ a m b) :
    Calls Try.prog 95 #[.slice (some ⟨g, 0, none⟩) n c, .int .i64 (a : Int), .int .i64 (m : Int), .int .i64 (b : Int), .func (.func q) #[] #[]] w fun e w' => e = .returned (.tuple #[]) ∧ Fr [g] w w' ∧ ∃ τ, Trow w' g n (fun k => F (τ k)) ∧ Shuf a b σ τ ∧ SortedS (fun k => (F k).w) τ a b := by
  have i1 : (n : Int) ≤ 1000 := by omega
  have i2 : (a : Int) + 1 < (m : Int) := by omega
  have i3 : (b : Int) - (m : Int) = 1 := by omega
  have i5 : ((m : Int) - (a : Int) == 1) = false := by simp; omega
  have i6 : ¬ (m : Int) - (a : Int) = 1 := by omega
  have i4 : (b : Int) ≤ (n : Int) := by omega
  have H := Lib.hid (And.intro h (And.intro hq (And.intro hW hT)))
  have HM := Lib.hid hm
  clear h hq hW hT hn hm
  go_enter Try.func95, Try.ntmps95
  go_wp2_with fail
  go_loopw [14, 15] (fun u v wr => ∃ (i j : Nat), a ≤ i ∧ i ≤ j ∧ j ≤ m ∧ u = .int .i64 (i : Int) ∧ v = .int .i64 (j : Int) ∧ (∀ k, a ≤ k → k < i → (F (σ k)).w ≤ (F (σ m)).w) ∧ (∀ k, j ≤ k → k < m → (F (σ m)).w < (F (σ k)).w) ∧ Fr [] w wr) (fun u v _ => (intOf v).toNat - (intOf u).toNat)
  case atStart => exact ⟨a, m, Nat.le_refl _, by omega, Nat.le_refl _, rfl, rfl, fun k h1 h2 => by omega, fun k h1 h2 => by omega, Fr.refl _ _⟩
  case round =>
    obtain ⟨i, j, hai, hij, hjb, rfl, rfl, p, r, hf⟩ := hrel
    by_cases hlt : i < j
    · have hli : (i : Int) < (j : Int) := by omega
      have hji : (j : Int) ≤ (m : Int) := by omega
      obtain ⟨x, hx⟩ : ∃ x, (i + j) / 2 = x := ⟨_, rfl⟩
      have ex : ((i : Int) + (j : Int)) / 2 = (x : Int) := by omega
      have hxi : i ≤ x := by omega
      have hxj : x < j := by omega
      have hT0 := H.out.1.to hf (by simp)
      have d0 := hT0.c0 x (by omega)
      have d1 := hT0.c1 x (by omega)
      have d2 := hT0.c2 x (by omega)
      have e0 := hT0.c0 m (by omega)
      have e1 := hT0.c1 m (by omega)
      have e2 := hT0.c2 m (by omega)
      have hgl := hT0.lt
      have hxn : (x : Int) < (n : Int) := by omega
      have han : (m : Int) < (n : Int) := by omega
      have hcm := fun W => H.out.2.1.2 (F (σ m)) (F (σ x)) W (H.out.2.2.1 _) (H.out.2.2.1 _)
      obtain ⟨⟨pw, ps, pt⟩, hP⟩ : ∃ y, F (σ x) = y := ⟨_, rfl⟩
      obtain ⟨⟨qw, qs, qt⟩, hQ⟩ : ∃ y, F (σ m) = y := ⟨_, rfl⟩
      simp only [hP, hQ] at d0 d1 d2 e0 e1 e2 hcm
      have HS := Lib.hid (And.intro p (And.intro r (And.intro hf (And.intro hP hQ))))
      unfold tv at hcm
      have HC := Lib.hid hcm
      clear p r hf hx hT0 hcm hP hQ
      by_cases hcl : qw < pw
      · rw [cmp_neg hcl] at HC
        have HCL := Lib.hid hcl
        clear hcl
        go_wp2_with fail
        refine wp_region_quiet_tail 9 (by kernel_rfl) (by kernel_rfl) ?_
        simp only [List.take_succ_cons, List.take_zero, List.drop_succ_cons, List.drop_zero]
        repeat go_big_quiet_step (fail)
        refine wpQuiet_nil ?_
        have hen := H.out.2.1.1
        go_wp2_with fail
        refine (HC.out _).mono ?_
        rintro e w5 ⟨rfl, f5⟩
        have H5 := Lib.hid ((Fr.drew (Fr.refl [] wr)).trans f5)
        clear f5 hen
        go_wp2_with fail
        go_roundw
        case rel =>
          obtain ⟨p, r, hf, hP, hQ⟩ := HS.out
          refine ⟨i, x, by omega, by omega, by omega, rfl, rfl, p, fun k h1 h2 => ?_, hf.trans H5.out⟩
          have := H.out.2.2.2.l.le (show a ≤ x by omega) h1 h2
          rw [hQ]
          have h3 := HCL.out
          simp only [hP] at this
          show qw < _
          omega
        case measure => simp [intOf]; omega
      · obtain ⟨hc0, hc1⟩ := cmp_pos hcl
        obtain ⟨cr, hcr⟩ : ∃ cr, cmpI qw pw = cr := ⟨_, rfl⟩
        rw [hcr] at HC hc0 hc1
        have hnb : decide (cr < 0) = false := by simp; omega
        have HCL := Lib.hid hcl
        clear hcl hcr
        go_wp2_with fail
        refine wp_region_quiet_tail 9 (by kernel_rfl) (by kernel_rfl) ?_
        simp only [List.take_succ_cons, List.take_zero, List.drop_succ_cons, List.drop_zero]
        repeat go_big_quiet_step (fail)
        refine wpQuiet_nil ?_
        have hen := H.out.2.1.1
        go_wp2_with fail
        refine (HC.out _).mono ?_
        rintro e w5 ⟨rfl, f5⟩
        have H5 := Lib.hid ((Fr.drew (Fr.refl [] wr)).trans f5)
        clear f5 hen
        go_wp2_with fail
        go_roundw
        case rel =>
          obtain ⟨p, r, hf, hP, hQ⟩ := HS.out
          refine ⟨x + 1, j, by omega, by omega, hjb, by go_num, rfl, fun k h1 h2 => ?_, r, hf.trans H5.out⟩
          have := H.out.2.2.2.l.le h1 (show k ≤ x by omega) (by omega)
          rw [hQ]
          have h3 := HCL.out
          simp only [hP] at this
          show _ ≤ qw
          omega
        case measure => simp [intOf]; omega
    · obtain rfl : i = j := by omega
      have HS := Lib.hid (And.intro p (And.intro r hf))
      clear p r hf
      have hib : (i : Int) ≤ (m : Int) := by omega
      go_wp2_with fail
      obtain ⟨wo, hwo⟩ : ∃ wo, wo = wr := ⟨wr, rfl⟩
      subst hwo
      go_loopw [17] (fun v wr => ∃ (k : Nat), i ≤ k ∧ k ≤ m ∧ v = .int .i64 (k : Int) ∧ Trow wr g n (fun z => F (rotF σ k m (m + 1) z)) ∧ Fr [g] wo wr) (fun v _ => (intOf v).toNat)
      case atStart =>
        refine ⟨m, by omega, Nat.le_refl _, rfl, (H.out.1.to HS.out.2.2 (by simp)).congr fun z _ => ?_, Fr.refl _ _⟩
        rw [rot_same σ m m (m + 1) (.inl rfl) (by omega) (by omega)]
      case round =>
        obtain ⟨k, hik, hkm, rfl, hT, hf⟩ := hrel
        have hm := HM.out
        by_cases hk : i < k
        · obtain ⟨r, rfl⟩ : ∃ r, r = k := ⟨k, rfl⟩
          obtain ⟨y, hy⟩ : ∃ y, y + 1 = r := ⟨r - 1, by omega⟩
          have ey : (r : Int) - 1 = (y : Int) := by omega
          have hkn : (i : Int) < (r : Int) := by omega
          have hk0 : (r : Int) < (n : Int) := by omega
          have hy0 : (y : Int) < (n : Int) := by omega
          have hsw := hT.swap r y (by omega) (by omega)
          have x0 := hT.c0 r (by omega)
          have x1 := hT.c1 r (by omega)
          have x2 := hT.c2 r (by omega)
          have y0 := hT.c0 y (by omega)
          have y1 := hT.c1 y (by omega)
          have y2 := hT.c2 y (by omega)
          have z0 := hT.fz (r * 3)
          have z1 := hT.fz (r * 3 + 1)
          have z2 := hT.fz (r * 3 + 2)
          have v0 := hT.fz (y * 3)
          have v1 := hT.fz (y * 3 + 1)
          have v2 := hT.fz (y * 3 + 2)
          have hne : r ≠ y := by omega
          obtain ⟨⟨pw, ps, pt⟩, hP⟩ : ∃ x, F (rotF σ r m (m + 1) r) = x := ⟨_, rfl⟩
          obtain ⟨⟨qw, qs, qt⟩, hQ⟩ : ∃ x, F (rotF σ r m (m + 1) y) = x := ⟨_, rfl⟩
          simp only [hP, hQ] at x0 x1 x2 y0 y1 y2 hsw
          have hfs := (putTh_fr wr g r ⟨qw, qs, qt⟩).trans (putTh_fr _ g y ⟨pw, ps, pt⟩)
          simp only [putTh] at hsw hfs
          have H5 := Lib.hid (And.intro hsw (And.intro hfs (And.intro hf hy)))
          clear hT hf hsw hfs hP hQ hm hy
          go_wp2_with fail
          go_region
          go_wp2_with fail
          go_roundw
          case rel =>
            obtain ⟨h1, h2, h3, h4⟩ := H5.out
            refine ⟨y, by omega, by omega, rfl, ?_, h3.trans (Fr.drew h2)⟩
            refine (h1.to (Fr.drew (Fr.refl [] _)) (by simp)).congr fun z _ => ?_
            rw [swapF_comp F (rotF σ r m (m + 1)), ← h4, rot_down σ m y z (by omega)]
          case measure => simp [intOf]; omega
        · have hkn : (k : Int) ≤ (i : Int) := by omega
          have hke : k = i := by omega
          rw [hke, ← hm] at hT
          have HK := Lib.hid (And.intro hT hf)
          clear hT hf hm hke
          go_wp2_with fail
          ((try simp only [Exit.inBlock, Exit.then]); refine bodyPost_ret (results_none rfl _ _ _) rfl ?_)
          exact ⟨rfl, HS.out.2.2.nil.trans HK.out.2, _, HK.out.1, H.out.2.2.2.one_right i HM.out hai (by omega) HS.out.1 HS.out.2.1⟩
end Go.Proofs.Ytciejmlhdmjajaa

