/- Merging in place, plain: what a rotation makes of two sorted ranges. Merging in place: symMergeCmpFunc where one range is one thing. Merging in place: symMergeCmpFunc where the right range is one thing. -/
import Derived.Test.YtciejmlhdmjajaaKSb
namespace Go.Proofs.Ytciejmlhdmjajaa
set_option linter.unusedVariables false
set_option linter.unusedSimpArgs false

theorem rot_lo {α : Type} (F : Nat → α) (s m e k : Nat) (h : k < s) : rotF F s m e k = F k := by
  unfold rotF; rw [if_neg (by omega), if_neg (by omega)]
theorem rot_hi {α : Type} (F : Nat → α) (s m e k : Nat) (hs : s ≤ m) (hm : m ≤ e) (h : e ≤ k) : rotF F s m e k = F k := by
  unfold rotF; rw [if_neg (by omega), if_neg (by omega)]
theorem rot_1 {α : Type} (F : Nat → α) (s m e k : Nat) (h1 : s ≤ k) (h2 : k < s + (e - m)) : rotF F s m e k = F (k - s + m) := by
  unfold rotF; rw [if_pos ⟨h1, h2⟩]
theorem rot_2 {α : Type} (F : Nat → α) (s m e k : Nat) (h1 : s + (e - m) ≤ k) (h2 : k < e) : rotF F s m e k = F (k - (e - m)) := by
  unfold rotF; rw [if_neg (by omega), if_pos ⟨h1, h2⟩]
theorem rot_same {α : Type} (F : Nat → α) (s m e : Nat) (h : s = m ∨ e = m) (hs : s ≤ m) (hm : m ≤ e) (k : Nat) : rotF F s m e k = F k := by
  by_cases h1 : k < s
  · exact rot_lo F s m e k h1
  · by_cases h2 : e ≤ k
    · exact rot_hi F s m e k hs hm h2
    · by_cases h3 : k < s + (e - m)
      · rw [rot_1 F s m e k (by omega) h3]; congr 1; omega
      · rw [rot_2 F s m e k (by omega) (by omega)]; congr 1; omega
theorem rot_comp (F : Nat → Th) (σ : Nat → Nat) (s m e k : Nat) : rotF (fun k => F (σ k)) s m e k = F (rotF σ s m e k) := by
  unfold rotF
  repeat' split
  all_goals rfl
theorem rot_up {α : Type} (F : Nat → α) (a k j : Nat) (h : a ≤ k) : swapF (rotF F a (a + 1) (k + 1)) k (k + 1) j = rotF F a (a + 1) (k + 2) j := by
  unfold swapF rotF
  repeat' split
  all_goals first
    | rfl
    | (exfalso; omega)
    | (congr 1; omega)
theorem rot_down {α : Type} (F : Nat → α) (m k j : Nat) (h : k < m) : swapF (rotF F (k + 1) m (m + 1)) (k + 1) k j = rotF F k m (m + 1) j := by
  unfold swapF rotF
  repeat' split
  all_goals first
    | rfl
    | (exfalso; omega)
    | (congr 1; omega)
/-- What the ranges must be. -/
structure Two (W σ : Nat → Nat) (a m b : Nat) : Prop where
  l : SortedS W σ a m
  r : SortedS W σ m b
  t : ∀ i j, a ≤ i → i < m → m ≤ j → j < b → σ i < σ j
theorem SortedS.join {W σ : Nat → Nat} {a m b : Nat} (h : SortedS W σ a m) (k : SortedS W σ m b) (c : ∀ i j, a ≤ i → i < m → m ≤ j → j < b → ltS W (σ i) (σ j)) : SortedS W σ a b := by
  intro i j h1 h2 h3
  by_cases hj : j < m
  · exact h i j h1 h2 hj
  · by_cases hi : m ≤ i
    · exact k i j hi h2 h3
    · exact c i j h1 (by omega) (by omega) h3
theorem SortedS.congr {W σ τ : Nat → Nat} {a b : Nat} (h : SortedS W σ a b) (e : ∀ k, a ≤ k → k < b → τ k = σ k) : SortedS W τ a b := by
  intro i j h1 h2 h3
  rw [e i h1 (by omega), e j (by omega) h3]
  exact h i j h1 h2 h3
theorem SortedS.part {W σ : Nat → Nat} {a b c d : Nat} (h : SortedS W σ a b) (h1 : a ≤ c) (h2 : d ≤ b) : SortedS W σ c d := fun i j k1 k2 k3 => h i j (by omega) k2 (by omega)
theorem le_of_lt_s {W : Nat → Nat} {x y : Nat} (h : ltS W x y) : W x ≤ W y := by
  unfold ltS at h; omega
theorem SortedS.le {W σ : Nat → Nat} {a b : Nat} (h : SortedS W σ a b) {i j : Nat} (h1 : a ≤ i) (h2 : i ≤ j) (h3 : j < b) : W (σ i) ≤ W (σ j) := by
  by_cases he : i = j
  · rw [he]; exact Nat.le_refl _
  · exact le_of_lt_s (h i j h1 (by omega) h3)
structure Cut (W σ ρ : Nat → Nat) (a s d e b : Nat) : Prop where
  sh : Shuf a b σ ρ
  s1 : SortedS W ρ a s
  s2 : SortedS W ρ s d
  s3 : SortedS W ρ d e
  s4 : SortedS W ρ e b
  t1 : ∀ i j, a ≤ i → i < s → s ≤ j → j < d → ρ i < ρ j
  t2 : ∀ i j, d ≤ i → i < e → e ≤ j → j < b → ρ i < ρ j
  x : ∀ i j, a ≤ i → i < d → d ≤ j → j < b → ltS W (ρ i) (ρ j)
theorem Two.cut {W σ : Nat → Nat} {a m b : Nat} (h : Two W σ a m b) (s d e : Nat) (has : a ≤ s) (hsm : s ≤ m) (hme : m ≤ e) (heb : e ≤ b) (hd : d = s + (e - m))
    (h1 : ∀ x y, a ≤ x → x < s → e ≤ y → y < b → W (σ x) ≤ W (σ y)) (h2 : ∀ x y, m ≤ x → x < e → s ≤ y → y < m → W (σ x) < W (σ y)) : Cut W σ (rotF σ s m e) a s d e b := by
  have p1 : ∀ k, k < s → rotF σ s m e k = σ k := fun k hk => rot_lo σ s m e k hk
  have p2 : ∀ k, s ≤ k → k < d → rotF σ s m e k = σ (k - s + m) := fun k hk hk2 => rot_1 σ s m e k hk (by omega)
  have p3 : ∀ k, d ≤ k → k < e → rotF σ s m e k = σ (k - (e - m)) := fun k hk hk2 => rot_2 σ s m e k (by omega) hk2
  have p4 : ∀ k, e ≤ k → rotF σ s m e k = σ k := fun k hk => rot_hi σ s m e k hsm hme hk
  refine ⟨⟨fun k hk => ?_, fun k k1 k2 => ?_, fun k k1 k2 => ?_⟩, ?_, ?_, ?_, ?_, ?_, ?_, ?_⟩
  · by_cases c : k < s
    · exact p1 k c
    · exact p4 k (by omega)
  · by_cases c1 : k < s
    · exact ⟨k, k1, k2, p1 k c1⟩
    · by_cases c2 : k < d
      · exact ⟨_, by omega, by omega, p2 k (by omega) c2⟩
      · by_cases c3 : k < e
        · exact ⟨_, by omega, by omega, p3 k (by omega) c3⟩
        · exact ⟨k, k1, k2, p4 k (by omega)⟩
  · by_cases c1 : k < s
    · exact ⟨k, k1, k2, (p1 k c1).symm⟩
    · by_cases c2 : k < m
      · refine ⟨k + (e - m), by omega, by omega, ?_⟩
        rw [p3 _ (by omega) (by omega)]
        congr 1; omega
      · by_cases c3 : k < e
        · refine ⟨k - m + s, by omega, by omega, ?_⟩
          rw [p2 _ (by omega) (by omega)]
          congr 1; omega
        · exact ⟨k, k1, k2, (p4 k (by omega)).symm⟩
  · exact (h.l.part (Nat.le_refl _) hsm).congr fun k _ k2 => p1 k k2
  · intro i j i1 i2 i3
    rw [p2 i i1 (by omega), p2 j (by omega) i3]
    exact h.r _ _ (by omega) (by omega) (by omega)
  · intro i j i1 i2 i3
    rw [p3 i i1 (by omega), p3 j (by omega) i3]
    exact h.l _ _ (by omega) (by omega) (by omega)
  · exact (h.r.part hme (Nat.le_refl _)).congr fun k k1 _ => p4 k k1
  · intro i j i1 i2 i3 i4
    rw [p1 i i2, p2 j i3 i4]
    exact h.t _ _ (by omega) (by omega) (by omega) (by omega)
  · intro i j i1 i2 i3 i4
    rw [p3 i i1 i2, p4 j i3]
    exact h.t _ _ (by omega) (by omega) (by omega) (by omega)
  · intro i j i1 i2 i3 i4
    by_cases c1 : i < s
    · rw [p1 i c1]
      by_cases c2 : j < e
      · rw [p3 j i3 c2]
        exact h.l _ _ (by omega) (by omega) (by omega)
      · rw [p4 j (by omega)]
        have := h1 i j i1 c1 (by omega) i4
        have := h.t i j i1 (by omega) (by omega) i4
        unfold ltS
        omega
    · rw [p2 i (by omega) i2]
      by_cases c2 : j < e
      · rw [p3 j i3 c2]
        exact .inl (h2 _ _ (by omega) (by omega) (by omega) (by omega))
      · rw [p4 j (by omega)]
        exact h.r _ _ (by omega) (by omega) (by omega)
/-- Both halves are merged. -/
theorem Cut.merged {W σ ρ α τ : Nat → Nat} {a s d e b : Nat} (h : Cut W σ ρ a s d e b) (had : a ≤ d) (hdb : d ≤ b) (k1 : Shuf a d ρ α) (k2 : Shuf d b α τ) (l1 : SortedS W α a d) (l2 : SortedS W τ d b) : Shuf a b σ τ ∧ SortedS W τ a b := by
  refine ⟨(h.sh.trans (k1.mono (Nat.le_refl _) hdb)).trans (k2.mono had (Nat.le_refl _)), (l1.congr fun k _ hk => k2.1 k (by omega)).join l2 fun i j i1 i2 i3 i4 => ?_⟩
  rw [k2.1 i (by omega)]
  obtain ⟨p, p1, p2, p3⟩ := k1.2.1 i i1 i2
  obtain ⟨q, q1, q2, q3⟩ := k2.2.1 j i3 i4
  rw [p3, q3, k1.1 q (by omega)]
  exact h.x _ _ p1 p2 q1 q2
/-- One thing on the left. -/
theorem Two.one_left {W σ : Nat → Nat} {a m b : Nat} (h : Two W σ a m b) (i : Nat) (hm : m = a + 1) (h1 : m ≤ i) (h2 : i ≤ b) (p : ∀ k, m ≤ k → k < i → W (σ k) < W (σ a)) (q : ∀ k, i ≤ k → k < b → W (σ a) ≤ W (σ k)) : Shuf a b σ (rotF σ a m i) ∧ SortedS W (rotF σ a m i) a b := by
  have hc := h.cut a (i - 1) i (Nat.le_refl _) (by omega) h1 h2 (by omega) (fun x y _ _ _ _ => by omega) (fun x y x1 x2 y1 y2 => by rw [show y = a by omega]; exact p x x1 x2)
  refine hc.merged (by omega) (by omega) (Shuf.refl _ _ _) (Shuf.refl _ _ _) hc.s2 ?_
  refine hc.s3.join hc.s4 fun x y x1 x2 y1 y2 => ?_
  have e1 : rotF σ a m i x = σ a := by rw [rot_2 σ a m i x (by omega) x2]; congr 1; omega
  have e2 : rotF σ a m i y = σ y := rot_hi σ a m i y (by omega) h1 y1
  have e3 := hc.t2 x y x1 x2 y1 y2
  rw [e1, e2] at e3 ⊢
  have := q y y1 y2
  unfold ltS
  omega
/-- One thing on the right. -/
theorem Two.one_right {W σ : Nat → Nat} {a m b : Nat} (h : Two W σ a m b) (i : Nat) (hm : b = m + 1) (h1 : a ≤ i) (h2 : i ≤ m) (p : ∀ k, a ≤ k → k < i → W (σ k) ≤ W (σ m)) (q : ∀ k, i ≤ k → k < m → W (σ m) < W (σ k)) : Shuf a b σ (rotF σ i m b) ∧ SortedS W (rotF σ i m b) a b := by
  have hc := h.cut i (i + 1) b h1 h2 (by omega) (Nat.le_refl _) (by omega) (fun x y _ _ _ _ => by omega) (fun x y x1 x2 y1 y2 => by rw [show x = m by omega]; exact q y y1 y2)
  refine hc.merged (by omega) (by omega) (Shuf.refl _ _ _) (Shuf.refl _ _ _) ?_ hc.s3
  refine hc.s1.join hc.s2 fun x y x1 x2 y1 y2 => ?_
  have e1 : rotF σ i m b x = σ x := rot_lo σ i m b x x2
  have e2 : rotF σ i m b y = σ m := by rw [rot_1 σ i m b y y1 (by omega)]; congr 1; omega
  have e3 := hc.t1 x y x1 x2 y1 y2
  rw [e1, e2] at e3 ⊢
  have := p x x1 x2
  unfold ltS
  omega
/-- The search's answer makes a cut. -/
theorem Two.sym {W σ : Nat → Nat} {a m b : Nat} (h : Two W σ a m b) (ham : a < m) (hmb : m < b) (s0 r0 s d : Nat) (hd : d = (a + b) / 2) (h0 : d < m ∧ s0 = d + m - b ∧ r0 = d ∨ m ≤ d ∧ s0 = a ∧ r0 = m) (hs0 : s0 ≤ s) (hs1 : s ≤ r0)
    (p : ∀ c, s0 ≤ c → c < s → W (σ c) ≤ W (σ (d + m - 1 - c))) (q : ∀ c, s ≤ c → c < r0 → W (σ (d + m - 1 - c)) < W (σ c)) : a ≤ s ∧ s ≤ m ∧ m ≤ d + m - s ∧ d + m - s ≤ b ∧ s ≤ d ∧ d ≤ d + m - s ∧ Cut W σ (rotF σ s m (d + m - s)) a s d (d + m - s) b := by
  refine ⟨by omega, by omega, by omega, by omega, by omega, by omega, h.cut s d (d + m - s) (by omega) (by omega) (by omega) (by omega) (by omega) (fun x y x1 x2 y1 y2 => ?_) (fun x y x1 x2 y1 y2 => ?_)⟩
  · have hss : s0 < s := by omega
    have := p (s - 1) (by omega) (by omega)
    have h1 := h.l.le x1 (show x ≤ s - 1 by omega) (by omega)
    have h2 := h.r.le (show m ≤ d + m - 1 - (s - 1) by omega) (show d + m - 1 - (s - 1) ≤ y by omega) y2
    omega
  · have hss : s < r0 := by omega
    have := q s (by omega) hss
    have h1 := h.r.le x1 (show x ≤ d + m - 1 - s by omega) (by omega)
    have h2 := h.l.le (show a ≤ s by omega) y1 y2
    omega
end Go.Proofs.Ytciejmlhdmjajaa
namespace Go.Proofs.Ytciejmlhdmjajaa
open Go.RowKit
set_option linter.unusedVariables false
set_option linter.unusedSimpArgs false

set_option maxRecDepth 2000000 in
set_option maxHeartbeats 6400000 in
theorem merge_left (q : FuncId) (hq : CmpOk q) (g n c a m b : Nat) (F : Nat → Th) (σ : Nat → Nat) (w : World) (h : Trow w g n (fun k => F (σ k))) (hn : n ≤ 1000) (hm : m = a + 1) (hmb : m < b) (hb : b ≤ n) (hW : ∀ k, (F k).w ≤ 1000000000000000) (hT : Two (fun k => (F k).w) σ a m b) :
    Calls Try.prog 95 #[.slice (some ⟨g, 0, none⟩) n c, .int .i64 (a : Int), .int .i64 (m : Int), .int .i64 (b : Int), .func (.func q) #[] #[]] w fun e w' => e = .returned (.tuple #[]) ∧ Fr [g] w w' ∧ ∃ τ, Trow w' g n (fun k => F (τ k)) ∧ Shuf a b σ τ ∧ SortedS (fun k => (F k).w) τ a b := by
  have i1 : (n : Int) ≤ 1000 := by omega
  have i2 : (m : Int) - (a : Int) = 1 := by omega
  have i3 : (m : Int) < (b : Int) := by omega
  have i4 : (b : Int) ≤ (n : Int) := by omega
  have H := Lib.hid (And.intro h (And.intro hq (And.intro hW hT)))
  have HM := Lib.hid hm
  clear h hq hW hT hn hm
  go_enter Try.func95, Try.ntmps95
  go_wp2_with fail
  go_loopw [10, 11] (fun u v wr => ∃ (i j : Nat), m ≤ i ∧ i ≤ j ∧ j ≤ b ∧ u = .int .i64 (i : Int) ∧ v = .int .i64 (j : Int) ∧ (∀ k, m ≤ k → k < i → (F (σ k)).w < (F (σ a)).w) ∧ (∀ k, j ≤ k → k < b → (F (σ a)).w ≤ (F (σ k)).w) ∧ Fr [] w wr) (fun u v _ => (intOf v).toNat - (intOf u).toNat)
  case atStart => exact ⟨m, b, Nat.le_refl _, by omega, Nat.le_refl _, rfl, rfl, fun k h1 h2 => by omega, fun k h1 h2 => by omega, Fr.refl _ _⟩
  case round =>
    obtain ⟨i, j, hmi, hij, hjb, rfl, rfl, p, r, hf⟩ := hrel
    by_cases hlt : i < j
    · have hli : (i : Int) < (j : Int) := by omega
      have hji : (j : Int) ≤ (b : Int) := by omega
      obtain ⟨x, hx⟩ : ∃ x, (i + j) / 2 = x := ⟨_, rfl⟩
      have ex : ((i : Int) + (j : Int)) / 2 = (x : Int) := by omega
      have hxi : i ≤ x := by omega
      have hxj : x < j := by omega
      have hT0 := H.out.1.to hf (by simp)
      have d0 := hT0.c0 x (by omega)
      have d1 := hT0.c1 x (by omega)
      have d2 := hT0.c2 x (by omega)
      have e0 := hT0.c0 a (by omega)
      have e1 := hT0.c1 a (by omega)
      have e2 := hT0.c2 a (by omega)
      have hgl := hT0.lt
      have hxn : (x : Int) < (n : Int) := by omega
      have han : (a : Int) < (n : Int) := by omega
      have hcm := fun W => H.out.2.1.2 (F (σ x)) (F (σ a)) W (H.out.2.2.1 _) (H.out.2.2.1 _)
      obtain ⟨⟨pw, ps, pt⟩, hP⟩ : ∃ y, F (σ x) = y := ⟨_, rfl⟩
      obtain ⟨⟨qw, qs, qt⟩, hQ⟩ : ∃ y, F (σ a) = y := ⟨_, rfl⟩
      simp only [hP, hQ] at d0 d1 d2 e0 e1 e2 hcm
      have HS := Lib.hid (And.intro p (And.intro r (And.intro hf (And.intro hP hQ))))
      unfold tv at hcm
      have HC := Lib.hid hcm
      clear p r hf hx hT0 hcm hP hQ
      by_cases hcl : pw < qw
      · rw [cmp_neg hcl] at HC
        have HCL := Lib.hid hcl
        clear hcl
        go_wp2_with fail
        refine wp_region_quiet_tail 9 (by kernel_rfl) (by kernel_rfl) ?_
        simp only [List.take_succ_cons, List.take_zero, List.drop_succ_cons, List.drop_zero]
        repeat go_big_quiet_step (fail)
        refine wpQuiet_nil ?_
        have hen := H.out.2.1.1
        go_wp2_with fail
        refine (HC.out _).mono ?_
        rintro e w5 ⟨rfl, f5⟩
        have H5 := Lib.hid ((Fr.drew (Fr.refl [] wr)).trans f5)
        clear f5 hen
        go_wp2_with fail
        go_roundw
        case rel =>
          obtain ⟨p, r, hf, hP, hQ⟩ := HS.out
          refine ⟨x + 1, j, by omega, by omega, hjb, by go_num, rfl, fun k h1 h2 => ?_, r, hf.trans H5.out⟩
          have := H.out.2.2.2.r.le h1 (show k ≤ x by omega) (by omega)
          rw [hQ]
          have h3 := HCL.out
          simp only [hP] at this
          show _ < qw
          omega
        case measure => simp [intOf]; omega
      · obtain ⟨hc0, hc1⟩ := cmp_pos hcl
        obtain ⟨cr, hcr⟩ : ∃ cr, cmpI pw qw = cr := ⟨_, rfl⟩
        rw [hcr] at HC hc0 hc1
        have HCL := Lib.hid hcl
        clear hcl hcr
        go_wp2_with fail
        refine wp_region_quiet_tail 9 (by kernel_rfl) (by kernel_rfl) ?_
        simp only [List.take_succ_cons, List.take_zero, List.drop_succ_cons, List.drop_zero]
        repeat go_big_quiet_step (fail)
        refine wpQuiet_nil ?_
        have hen := H.out.2.1.1
        go_wp2_with fail
        refine (HC.out _).mono ?_
        rintro e w5 ⟨rfl, f5⟩
        have H5 := Lib.hid ((Fr.drew (Fr.refl [] wr)).trans f5)
        clear f5 hen
        go_wp2_with fail
        go_roundw
        case rel =>
          obtain ⟨p, r, hf, hP, hQ⟩ := HS.out
          refine ⟨i, x, by omega, by omega, by omega, rfl, rfl, p, fun k h1 h2 => ?_, hf.trans H5.out⟩
          have := H.out.2.2.2.r.le (show m ≤ x by omega) h1 h2
          rw [hQ]
          have h3 := HCL.out
          simp only [hP] at this
          show qw ≤ _
          omega
        case measure => simp [intOf]; omega
    · obtain rfl : i = j := by omega
      have HS := Lib.hid (And.intro p (And.intro r hf))
      clear p r hf
      have hip : 0 ≤ (i : Int) - 1 := by omega
      have hib : (i : Int) ≤ (b : Int) := by omega
      go_wp2_with fail
      obtain ⟨wo, hwo⟩ : ∃ wo, wo = wr := ⟨wr, rfl⟩
      subst hwo
      go_loopw [13] (fun v wr => ∃ (k : Nat), a ≤ k ∧ k + 1 ≤ i ∧ v = .int .i64 (k : Int) ∧ Trow wr g n (fun z => F (rotF σ a (a + 1) (k + 1) z)) ∧ Fr [g] wo wr) (fun v _ => i - (intOf v).toNat)
      case atStart =>
        have := HM.out
        refine ⟨a, Nat.le_refl _, by omega, rfl, (H.out.1.to HS.out.2.2 (by simp)).congr fun z _ => ?_, Fr.refl _ _⟩
        rw [rot_same σ a (a + 1) (a + 1) (.inr rfl) (by omega) (by omega)]
      case round =>
        obtain ⟨k, hak, hki, rfl, hT, hf⟩ := hrel
        have hm := HM.out
        by_cases hk : k + 1 < i
        · obtain ⟨y, hy⟩ : ∃ y, k + 1 = y := ⟨_, rfl⟩
          have ey : (k : Int) + 1 = (y : Int) := by omega
          have hkn : (k : Int) < (i : Int) - 1 := by omega
          have hk0 : (k : Int) < (n : Int) := by omega
          have hy0 : (y : Int) < (n : Int) := by omega
          have hsw := hT.swap k y (by omega) (by omega)
          have x0 := hT.c0 k (by omega)
          have x1 := hT.c1 k (by omega)
          have x2 := hT.c2 k (by omega)
          have y0 := hT.c0 y (by omega)
          have y1 := hT.c1 y (by omega)
          have y2 := hT.c2 y (by omega)
          have z0 := hT.fz (k * 3)
          have z1 := hT.fz (k * 3 + 1)
          have z2 := hT.fz (k * 3 + 2)
          have v0 := hT.fz (y * 3)
          have v1 := hT.fz (y * 3 + 1)
          have v2 := hT.fz (y * 3 + 2)
          have hne : k ≠ y := by omega
          obtain ⟨⟨pw, ps, pt⟩, hP⟩ : ∃ x, F (rotF σ a (a + 1) (k + 1) k) = x := ⟨_, rfl⟩
          obtain ⟨⟨qw, qs, qt⟩, hQ⟩ : ∃ x, F (rotF σ a (a + 1) (k + 1) y) = x := ⟨_, rfl⟩
          simp only [hP, hQ] at x0 x1 x2 y0 y1 y2 hsw
          have hfs := (putTh_fr wr g k ⟨qw, qs, qt⟩).trans (putTh_fr _ g y ⟨pw, ps, pt⟩)
          simp only [putTh] at hsw hfs
          have H5 := Lib.hid (And.intro hsw (And.intro hfs (And.intro hf hy)))
          clear hT hf hsw hfs hP hQ hm hy
          go_wp2_with fail
          go_region
          go_wp2_with fail
          go_roundw
          case rel =>
            obtain ⟨h1, h2, h3, h4⟩ := H5.out
            refine ⟨y, by omega, by omega, rfl, ?_, h3.trans (Fr.drew h2)⟩
            refine (h1.to (Fr.drew (Fr.refl [] _)) (by simp)).congr fun z _ => ?_
            rw [swapF_comp F (rotF σ a (a + 1) (k + 1)), ← h4, rot_up σ a k z hak]
          case measure => simp [intOf]; omega
        · have hkn : (i : Int) - 1 ≤ (k : Int) := by omega
          have hke : k + 1 = i := by omega
          rw [hke, ← hm] at hT
          have HK := Lib.hid (And.intro hT hf)
          clear hT hf hm hke
          go_wp2_with fail
          ((try simp only [Exit.inBlock, Exit.then]); refine bodyPost_ret (results_none rfl _ _ _) rfl ?_)
          exact ⟨rfl, HS.out.2.2.nil.trans HK.out.2, _, HK.out.1, H.out.2.2.2.one_left i HM.out hmi (by omega) HS.out.1 HS.out.2.1⟩
end Go.Proofs.Ytciejmlhdmjajaa
namespace Go.Proofs.Ytciejmlhdmjajaa
open Go.RowKit
set_option linter.unusedVariables false
set_option linter.unusedSimpArgs false

set_option maxRecDepth 2000000 in
set_option maxHeartbeats 6400000 in
theorem merge_right (q : FuncId) (hq : CmpOk q) (g n c a m b : Nat) (F : Nat → Th) (σ : Nat → Nat) (w : World) (h : Trow w g n (fun k => F (σ k))) (hn : n ≤ 1000) (ham : a + 1 < m) (hm : b = m + 1) (hb : b ≤ n) (hW : ∀ k, (F k).w ≤ 1000000000000000) (hT : Two (fun k => (F k).w) σ a m b) :
    Calls Try.prog 95 #[.slice (some ⟨g, 0, none⟩) n c, .int .i64 (a : Int), .int .i64 (m : Int), .int .i64 (b : Int), .func (.func q) #[] #[]] w fun e w' => e = .returned (.tuple #[]) ∧ Fr [g] w w' ∧ ∃ τ, Trow w' g n (fun k => F (τ k)) ∧ Shuf a b σ τ ∧ SortedS (fun k => (F k).w) τ a b := by
  have i1 : (n : Int) ≤ 1000 := by omega
  have i2 : (a : Int) + 1 < (m : Int) := by omega
  have i3 : (b : Int) - (m : Int) = 1 := by omega
  have i5 : ((m : Int) - (a : Int) == 1) = false := by simp; omega
  have i6 : ¬ (m : Int) - (a : Int) = 1 := by omega
  have i4 : (b : Int) ≤ (n : Int) := by omega
  have H := Lib.hid (And.intro h (And.intro hq (And.intro hW hT)))
  have HM := Lib.hid hm
  clear h hq hW hT hn hm
  go_enter Try.func95, Try.ntmps95
  go_wp2_with fail
  go_loopw [14, 15] (fun u v wr => ∃ (i j : Nat), a ≤ i ∧ i ≤ j ∧ j ≤ m ∧ u = .int .i64 (i : Int) ∧ v = .int .i64 (j : Int) ∧ (∀ k, a ≤ k → k < i → (F (σ k)).w ≤ (F (σ m)).w) ∧ (∀ k, j ≤ k → k < m → (F (σ m)).w < (F (σ k)).w) ∧ Fr [] w wr) (fun u v _ => (intOf v).toNat - (intOf u).toNat)
  case atStart => exact ⟨a, m, Nat.le_refl _, by omega, Nat.le_refl _, rfl, rfl, fun k h1 h2 => by omega, fun k h1 h2 => by omega, Fr.refl _ _⟩
  case round =>
    obtain ⟨i, j, hai, hij, hjb, rfl, rfl, p, r, hf⟩ := hrel
    by_cases hlt : i < j
    · have hli : (i : Int) < (j : Int) := by omega
      have hji : (j : Int) ≤ (m : Int) := by omega
      obtain ⟨x, hx⟩ : ∃ x, (i + j) / 2 = x := ⟨_, rfl⟩
      have ex : ((i : Int) + (j : Int)) / 2 = (x : Int) := by omega
      have hxi : i ≤ x := by omega
      have hxj : x < j := by omega
      have hT0 := H.out.1.to hf (by simp)
      have d0 := hT0.c0 x (by omega)
      have d1 := hT0.c1 x (by omega)
      have d2 := hT0.c2 x (by omega)
      have e0 := hT0.c0 m (by omega)
      have e1 := hT0.c1 m (by omega)
      have e2 := hT0.c2 m (by omega)
      have hgl := hT0.lt
      have hxn : (x : Int) < (n : Int) := by omega
      have han : (m : Int) < (n : Int) := by omega
      have hcm := fun W => H.out.2.1.2 (F (σ m)) (F (σ x)) W (H.out.2.2.1 _) (H.out.2.2.1 _)
      obtain ⟨⟨pw, ps, pt⟩, hP⟩ : ∃ y, F (σ x) = y := ⟨_, rfl⟩
      obtain ⟨⟨qw, qs, qt⟩, hQ⟩ : ∃ y, F (σ m) = y := ⟨_, rfl⟩
      simp only [hP, hQ] at d0 d1 d2 e0 e1 e2 hcm
      have HS := Lib.hid (And.intro p (And.intro r (And.intro hf (And.intro hP hQ))))
      unfold tv at hcm
      have HC := Lib.hid hcm
      clear p r hf hx hT0 hcm hP hQ
      by_cases hcl : qw < pw
      · rw [cmp_neg hcl] at HC
        have HCL := Lib.hid hcl
        clear hcl
        go_wp2_with fail
        refine wp_region_quiet_tail 9 (by kernel_rfl) (by kernel_rfl) ?_
        simp only [List.take_succ_cons, List.take_zero, List.drop_succ_cons, List.drop_zero]
        repeat go_big_quiet_step (fail)
        refine wpQuiet_nil ?_
        have hen := H.out.2.1.1
        go_wp2_with fail
        refine (HC.out _).mono ?_
        rintro e w5 ⟨rfl, f5⟩
        have H5 := Lib.hid ((Fr.drew (Fr.refl [] wr)).trans f5)
        clear f5 hen
        go_wp2_with fail
        go_roundw
        case rel =>
          obtain ⟨p, r, hf, hP, hQ⟩ := HS.out
          refine ⟨i, x, by omega, by omega, by omega, rfl, rfl, p, fun k h1 h2 => ?_, hf.trans H5.out⟩
          have := H.out.2.2.2.l.le (show a ≤ x by omega) h1 h2
          rw [hQ]
          have h3 := HCL.out
          simp only [hP] at this
          show qw < _
          omega
        case measure => simp [intOf]; omega
      · obtain ⟨hc0, hc1⟩ := cmp_pos hcl
        obtain ⟨cr, hcr⟩ : ∃ cr, cmpI qw pw = cr := ⟨_, rfl⟩
        rw [hcr] at HC hc0 hc1
        have hnb : decide (cr < 0) = false := by simp; omega
        have HCL := Lib.hid hcl
        clear hcl hcr
        go_wp2_with fail
        refine wp_region_quiet_tail 9 (by kernel_rfl) (by kernel_rfl) ?_
        simp only [List.take_succ_cons, List.take_zero, List.drop_succ_cons, List.drop_zero]
        repeat go_big_quiet_step (fail)
        refine wpQuiet_nil ?_
        have hen := H.out.2.1.1
        go_wp2_with fail
        refine (HC.out _).mono ?_
        rintro e w5 ⟨rfl, f5⟩
        have H5 := Lib.hid ((Fr.drew (Fr.refl [] wr)).trans f5)
        clear f5 hen
        go_wp2_with fail
        go_roundw
        case rel =>
          obtain ⟨p, r, hf, hP, hQ⟩ := HS.out
          refine ⟨x + 1, j, by omega, by omega, hjb, by go_num, rfl, fun k h1 h2 => ?_, r, hf.trans H5.out⟩
          have := H.out.2.2.2.l.le h1 (show k ≤ x by omega) (by omega)
          rw [hQ]
          have h3 := HCL.out
          simp only [hP] at this
          show _ ≤ qw
          omega
        case measure => simp [intOf]; omega
    · obtain rfl : i = j := by omega
      have HS := Lib.hid (And.intro p (And.intro r hf))
      clear p r hf
      have hib : (i : Int) ≤ (m : Int) := by omega
      go_wp2_with fail
      obtain ⟨wo, hwo⟩ : ∃ wo, wo = wr := ⟨wr, rfl⟩
      subst hwo
      go_loopw [17] (fun v wr => ∃ (k : Nat), i ≤ k ∧ k ≤ m ∧ v = .int .i64 (k : Int) ∧ Trow wr g n (fun z => F (rotF σ k m (m + 1) z)) ∧ Fr [g] wo wr) (fun v _ => (intOf v).toNat)
      case atStart =>
        refine ⟨m, by omega, Nat.le_refl _, rfl, (H.out.1.to HS.out.2.2 (by simp)).congr fun z _ => ?_, Fr.refl _ _⟩
        rw [rot_same σ m m (m + 1) (.inl rfl) (by omega) (by omega)]
      case round =>
        obtain ⟨k, hik, hkm, rfl, hT, hf⟩ := hrel
        have hm := HM.out
        by_cases hk : i < k
        · obtain ⟨r, rfl⟩ : ∃ r, r = k := ⟨k, rfl⟩
          obtain ⟨y, hy⟩ : ∃ y, y + 1 = r := ⟨r - 1, by omega⟩
          have ey : (r : Int) - 1 = (y : Int) := by omega
          have hkn : (i : Int) < (r : Int) := by omega
          have hk0 : (r : Int) < (n : Int) := by omega
          have hy0 : (y : Int) < (n : Int) := by omega
          have hsw := hT.swap r y (by omega) (by omega)
          have x0 := hT.c0 r (by omega)
          have x1 := hT.c1 r (by omega)
          have x2 := hT.c2 r (by omega)
          have y0 := hT.c0 y (by omega)
          have y1 := hT.c1 y (by omega)
          have y2 := hT.c2 y (by omega)
          have z0 := hT.fz (r * 3)
          have z1 := hT.fz (r * 3 + 1)
          have z2 := hT.fz (r * 3 + 2)
          have v0 := hT.fz (y * 3)
          have v1 := hT.fz (y * 3 + 1)
          have v2 := hT.fz (y * 3 + 2)
          have hne : r ≠ y := by omega
          obtain ⟨⟨pw, ps, pt⟩, hP⟩ : ∃ x, F (rotF σ r m (m + 1) r) = x := ⟨_, rfl⟩
          obtain ⟨⟨qw, qs, qt⟩, hQ⟩ : ∃ x, F (rotF σ r m (m + 1) y) = x := ⟨_, rfl⟩
          simp only [hP, hQ] at x0 x1 x2 y0 y1 y2 hsw
          have hfs := (putTh_fr wr g r ⟨qw, qs, qt⟩).trans (putTh_fr _ g y ⟨pw, ps, pt⟩)
          simp only [putTh] at hsw hfs
          have H5 := Lib.hid (And.intro hsw (And.intro hfs (And.intro hf hy)))
          clear hT hf hsw hfs hP hQ hm hy
          go_wp2_with fail
          go_region
          go_wp2_with fail
          go_roundw
          case rel =>
            obtain ⟨h1, h2, h3, h4⟩ := H5.out
            refine ⟨y, by omega, by omega, rfl, ?_, h3.trans (Fr.drew h2)⟩
            refine (h1.to (Fr.drew (Fr.refl [] _)) (by simp)).congr fun z _ => ?_
            rw [swapF_comp F (rotF σ r m (m + 1)), ← h4, rot_down σ m y z (by omega)]
          case measure => simp [intOf]; omega
        · have hkn : (k : Int) ≤ (i : Int) := by omega
          have hke : k = i := by omega
          rw [hke, ← hm] at hT
          have HK := Lib.hid (And.intro hT hf)
          clear hT hf hm hke
          go_wp2_with fail
          ((try simp only [Exit.inBlock, Exit.then]); refine bodyPost_ret (results_none rfl _ _ _) rfl ?_)
          exact ⟨rfl, HS.out.2.2.nil.trans HK.out.2, _, HK.out.1, H.out.2.2.2.one_right i HM.out hai (by omega) HS.out.1 HS.out.2.1⟩
end Go.Proofs.Ytciejmlhdmjajaa

