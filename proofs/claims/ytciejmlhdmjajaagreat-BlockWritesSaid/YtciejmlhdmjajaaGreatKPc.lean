/- Merging in place, plain: what a rotation makes of two sorted ranges. Merging in place: symMergeCmpFunc where one range is one thing. Merging in place: symMergeCmpFunc where the right range is one thing. Merging in place: symMergeCmpFunc, as a whole. stableCmpFunc, SortStableFunc: things put in order, those of one weight as they stood. Slices of whole numbers that come in, as lists. leaves: the symbols that count, by rising counts. merge: leaves and packages in one row. meet: each leaf of a package lengthens its symbol's code by one. -/
import Derived.Test.YtciejmlhdmjajaaGreatKBa
import Derived.Test.YtciejmlhdmjajaaGreatKSl
import Derived.Test.YtciejmlhdmjajaaGreatKSb
import Derived.Test.YtciejmlhdmjajaaGreatKHh
import Derived.Deep.CutRange
import Derived.ChangeSlices
import Derived.OpenShut
import Derived.OwnWalk
namespace Go.Proofs.YtciejmlhdmjajaaGreat
set_option linter.unusedVariables false
set_option linter.unusedSimpArgs false

theorem rot_lo {α : Type} (F : Nat → α) (s m e k : Nat) (h : k < s) : rotF F s m e k = F k := by
  unfold rotF; rw [if_neg (by omega), if_neg (by omega)]
theorem rot_hi {α : Type} (F : Nat → α) (s m e k : Nat) (hs : s ≤ m) (hm : m ≤ e) (h : e ≤ k) : rotF F s m e k = F k := by
  unfold rotF; rw [if_neg (by omega), if_neg (by omega)]
theorem rot_1 {α : Type} (F : Nat → α) (s m e k : Nat) (h1 : s ≤ k) (h2 : k < s + (e - m)) : rotF F s m e k = F (k - s + m) := by
  unfold rotF; rw [if_pos ⟨h1, h2⟩]
theorem rot_2 {α : Type} (F : Nat → α) (s m e k : Nat) (h1 : s + (e - m) ≤ k) (h2 : k < e) : rotF F s m e k = F (k - (e - m)) := by
  unfold rotF; rw [if_neg (by omega), if_pos ⟨h1, h2⟩]
theorem rot_same {α : Type} (F : Nat → α) (s m e : Nat) (h : s = m ∨ e = m) (hs : s ≤ m) (hm : m ≤ e) (k : Nat) : rotF F s m e k = F k := by
  by_cases h1 : k < s
  · exact rot_lo F s m e k h1
  · by_cases h2 : e ≤ k
    · exact rot_hi F s m e k hs hm h2
    · by_cases h3 : k < s + (e - m)
      · rw [rot_1 F s m e k (by omega) h3]; congr 1; omega
      · rw [rot_2 F s m e k (by omega) (by omega)]; congr 1; omega
theorem rot_comp (F : Nat → Th) (σ : Nat → Nat) (s m e k : Nat) : rotF (fun k => F (σ k)) s m e k = F (rotF σ s m e k) := by
  unfold rotF
  repeat' split
  all_goals rfl
theorem rot_up {α : Type} (F : Nat → α) (a k j : Nat) (h : a ≤ k) : swapF (rotF F a (a + 1) (k + 1)) k (k + 1) j = rotF F a (a + 1) (k + 2) j := by
  unfold swapF rotF
  repeat' split
  all_goals first
    | rfl
    | (exfalso; omega)
    | (congr 1; omega)
theorem rot_down {α : Type} (F : Nat → α) (m k j : Nat) (h : k < m) : swapF (rotF F (k + 1) m (m + 1)) (k + 1) k j = rotF F k m (m + 1) j := by
  unfold swapF rotF
  repeat' split
  all_goals first
    | rfl
    | (exfalso; omega)
    | (congr 1; omega)
/-- What the ranges must be. -/
structure Two (W σ : Nat → Nat) (a m b : Nat) : Prop where
  l : SortedS W σ a m
  r : SortedS W σ m b
  t : ∀ i j, a ≤ i → i < m → m ≤ j → j < b → σ i < σ j
theorem SortedS.join {W σ : Nat → Nat} {a m b : Nat} (h : SortedS W σ a m) (k : SortedS W σ m b) (c : ∀ i j, a ≤ i → i < m → m ≤ j → j < b → ltS W (σ i) (σ j)) : SortedS W σ a b := by
  intro i j h1 h2 h3
  by_cases hj : j < m
  · exact h i j h1 h2 hj
  · by_cases hi : m ≤ i
    · exact k i j hi h2 h3
    · exact c i j h1 (by omega) (by omega) h3
theorem SortedS.congr {W σ τ : Nat → Nat} {a b : Nat} (h : SortedS W σ a b) (e : ∀ k, a ≤ k → k < b → τ k = σ k) : SortedS W τ a b := by
  intro i j h1 h2 h3
  rw [e i h1 (by omega), e j (by omega) h3]
  exact h i j h1 h2 h3
theorem SortedS.part {W σ : Nat → Nat} {a b c d : Nat} (h : SortedS W σ a b) (h1 : a ≤ c) (h2 : d ≤ b) : SortedS W σ c d := fun i j k1 k2 k3 => h i j (by omega) k2 (by omega)
theorem le_of_lt_s {W : Nat → Nat} {x y : Nat} (h : ltS W x y) : W x ≤ W y := by
  unfold ltS at h; omega
theorem SortedS.le {W σ : Nat → Nat} {a b : Nat} (h : SortedS W σ a b) {i j : Nat} (h1 : a ≤ i) (h2 : i ≤ j) (h3 : j < b) : W (σ i) ≤ W (σ j) := by
  by_cases he : i = j
  · rw [he]; exact Nat.le_refl _
  · exact le_of_lt_s (h i j h1 (by omega) h3)
structure Cut (W σ ρ : Nat → Nat) (a s d e b : Nat) : Prop where
  sh : Shuf a b σ ρ
  s1 : SortedS W ρ a s
  s2 : SortedS W ρ s d
  s3 : SortedS W ρ d e
  s4 : SortedS W ρ e b
  t1 : ∀ i j, a ≤ i → i < s → s ≤ j → j < d → ρ i < ρ j
  t2 : ∀ i j, d ≤ i → i < e → e ≤ j → j < b → ρ i < ρ j
  x : ∀ i j, a ≤ i → i < d → d ≤ j → j < b → ltS W (ρ i) (ρ j)
theorem Two.cut {W σ : Nat → Nat} {a m b : Nat} (h : Two W σ a m b) (s d e : Nat) (has : a ≤ s) (hsm : s ≤ m) (hme : m ≤ e) (heb : e ≤ b) (hd : d = s + (e - m))
    (h1 : ∀ x y, a ≤ x → x < s → e ≤ y → y < b → W (σ x) ≤ W (σ y)) (h2 : ∀ x y, m ≤ x → x < e → s ≤ y → y < m → W (σ x) < W (σ y)) : Cut W σ (rotF σ s m e) a s d e b := by
  have p1 : ∀ k, k < s → rotF σ s m e k = σ k := fun k hk => rot_lo σ s m e k hk
  have p2 : ∀ k, s ≤ k → k < d → rotF σ s m e k = σ (k - s + m) := fun k hk hk2 => rot_1 σ s m e k hk (by omega)
  have p3 : ∀ k, d ≤ k → k < e → rotF σ s m e k = σ (k - (e - m)) := fun k hk hk2 => rot_2 σ s m e k (by omega) hk2
  have p4 : ∀ k, e ≤ k → rotF σ s m e k = σ k := fun k hk => rot_hi σ s m e k hsm hme hk
  refine ⟨⟨fun k hk => ?_, fun k k1 k2 => ?_, fun k k1 k2 => ?_⟩, ?_, ?_, ?_, ?_, ?_, ?_, ?_⟩
  · by_cases c : k < s
    · exact p1 k c
    · exact p4 k (by omega)
  · by_cases c1 : k < s
    · exact ⟨k, k1, k2, p1 k c1⟩
    · by_cases c2 : k < d
      · exact ⟨_, by omega, by omega, p2 k (by omega) c2⟩
      · by_cases c3 : k < e
        · exact ⟨_, by omega, by omega, p3 k (by omega) c3⟩
        · exact ⟨k, k1, k2, p4 k (by omega)⟩
  · by_cases c1 : k < s
    · exact ⟨k, k1, k2, (p1 k c1).symm⟩
    · by_cases c2 : k < m
      · refine ⟨k + (e - m), by omega, by omega, ?_⟩
        rw [p3 _ (by omega) (by omega)]
        congr 1; omega
      · by_cases c3 : k < e
        · refine ⟨k - m + s, by omega, by omega, ?_⟩
          rw [p2 _ (by omega) (by omega)]
          congr 1; omega
        · exact ⟨k, k1, k2, (p4 k (by omega)).symm⟩
  · exact (h.l.part (Nat.le_refl _) hsm).congr fun k _ k2 => p1 k k2
  · intro i j i1 i2 i3
    rw [p2 i i1 (by omega), p2 j (by omega) i3]
    exact h.r _ _ (by omega) (by omega) (by omega)
  · intro i j i1 i2 i3
    rw [p3 i i1 (by omega), p3 j (by omega) i3]
    exact h.l _ _ (by omega) (by omega) (by omega)
  · exact (h.r.part hme (Nat.le_refl _)).congr fun k k1 _ => p4 k k1
  · intro i j i1 i2 i3 i4
    rw [p1 i i2, p2 j i3 i4]
    exact h.t _ _ (by omega) (by omega) (by omega) (by omega)
  · intro i j i1 i2 i3 i4
    rw [p3 i i1 i2, p4 j i3]
    exact h.t _ _ (by omega) (by omega) (by omega) (by omega)
  · intro i j i1 i2 i3 i4
    by_cases c1 : i < s
    · rw [p1 i c1]
      by_cases c2 : j < e
      · rw [p3 j i3 c2]
        exact h.l _ _ (by omega) (by omega) (by omega)
      · rw [p4 j (by omega)]
        have := h1 i j i1 c1 (by omega) i4
        have := h.t i j i1 (by omega) (by omega) i4
        unfold ltS
        omega
    · rw [p2 i (by omega) i2]
      by_cases c2 : j < e
      · rw [p3 j i3 c2]
        exact .inl (h2 _ _ (by omega) (by omega) (by omega) (by omega))
      · rw [p4 j (by omega)]
        exact h.r _ _ (by omega) (by omega) (by omega)
/-- Both halves are merged. -/
theorem Cut.merged {W σ ρ α τ : Nat → Nat} {a s d e b : Nat} (h : Cut W σ ρ a s d e b) (had : a ≤ d) (hdb : d ≤ b) (k1 : Shuf a d ρ α) (k2 : Shuf d b α τ) (l1 : SortedS W α a d) (l2 : SortedS W τ d b) : Shuf a b σ τ ∧ SortedS W τ a b := by
  refine ⟨(h.sh.trans (k1.mono (Nat.le_refl _) hdb)).trans (k2.mono had (Nat.le_refl _)), (l1.congr fun k _ hk => k2.1 k (by omega)).join l2 fun i j i1 i2 i3 i4 => ?_⟩
  rw [k2.1 i (by omega)]
  obtain ⟨p, p1, p2, p3⟩ := k1.2.1 i i1 i2
  obtain ⟨q, q1, q2, q3⟩ := k2.2.1 j i3 i4
  rw [p3, q3, k1.1 q (by omega)]
  exact h.x _ _ p1 p2 q1 q2
/-- One thing on the left. -/
theorem Two.one_left {W σ : Nat → Nat} {a m b : Nat} (h : Two W σ a m b) (i : Nat) (hm : m = a + 1) (h1 : m ≤ i) (h2 : i ≤ b) (p : ∀ k, m ≤ k → k < i → W (σ k) < W (σ a)) (q : ∀ k, i ≤ k → k < b → W (σ a) ≤ W (σ k)) : Shuf a b σ (rotF σ a m i) ∧ SortedS W (rotF σ a m i) a b := by
  have hc := h.cut a (i - 1) i (Nat.le_refl _) (by omega) h1 h2 (by omega) (fun x y _ _ _ _ => by omega) (fun x y x1 x2 y1 y2 => by rw [show y = a by omega]; exact p x x1 x2)
  refine hc.merged (by omega) (by omega) (Shuf.refl _ _ _) (Shuf.refl _ _ _) hc.s2 ?_
  refine hc.s3.join hc.s4 fun x y x1 x2 y1 y2 => ?_
  have e1 : rotF σ a m i x = σ a := by rw [rot_2 σ a m i x (by omega) x2]; congr 1; omega
  have e2 : rotF σ a m i y = σ y := rot_hi σ a m i y (by omega) h1 y1
  have e3 := hc.t2 x y x1 x2 y1 y2
  rw [e1, e2] at e3 ⊢
  have := q y y1 y2
  unfold ltS
  omega
/-- One thing on the right. -/
theorem Two.one_right {W σ : Nat → Nat} {a m b : Nat} (h : Two W σ a m b) (i : Nat) (hm : b = m + 1) (h1 : a ≤ i) (h2 : i ≤ m) (p : ∀ k, a ≤ k → k < i → W (σ k) ≤ W (σ m)) (q : ∀ k, i ≤ k → k < m → W (σ m) < W (σ k)) : Shuf a b σ (rotF σ i m b) ∧ SortedS W (rotF σ i m b) a b := by
  have hc := h.cut i (i + 1) b h1 h2 (by omega) (Nat.le_refl _) (by omega) (fun x y _ _ _ _ => by omega) (fun x y x1 x2 y1 y2 => by rw [show x = m by omega]; exact q y y1 y2)
  refine hc.merged (by omega) (by omega) (Shuf.refl _ _ _) (Shuf.refl _ _ _) ?_ hc.s3
  refine hc.s1.join hc.s2 fun x y x1 x2 y1 y2 => ?_
  have e1 : rotF σ i m b x = σ x := rot_lo σ i m b x x2
  have e2 : rotF σ i m b y = σ m := by rw [rot_1 σ i m b y y1 (by omega)]; congr 1; omega
  have e3 := hc.t1 x y x1 x2 y1 y2
  rw [e1, e2] at e3 ⊢
  have := p x x1 x2
  unfold ltS
  omega
/-- The search's answer makes a cut. -/
theorem Two.sym {W σ : Nat → Nat} {a m b : Nat} (h : Two W σ a m b) (ham : a < m) (hmb : m < b) (s0 r0 s d : Nat) (hd : d = (a + b) / 2) (h0 : d < m ∧ s0 = d + m - b ∧ r0 = d ∨ m ≤ d ∧ s0 = a ∧ r0 = m) (hs0 : s0 ≤ s) (hs1 : s ≤ r0)
    (p : ∀ c, s0 ≤ c → c < s → W (σ c) ≤ W (σ (d + m - 1 - c))) (q : ∀ c, s ≤ c → c < r0 → W (σ (d + m - 1 - c)) < W (σ c)) : a ≤ s ∧ s ≤ m ∧ m ≤ d + m - s ∧ d + m - s ≤ b ∧ s ≤ d ∧ d ≤ d + m - s ∧ Cut W σ (rotF σ s m (d + m - s)) a s d (d + m - s) b := by
  refine ⟨by omega, by omega, by omega, by omega, by omega, by omega, h.cut s d (d + m - s) (by omega) (by omega) (by omega) (by omega) (by omega) (fun x y x1 x2 y1 y2 => ?_) (fun x y x1 x2 y1 y2 => ?_)⟩
  · have hss : s0 < s := by omega
    have := p (s - 1) (by omega) (by omega)
    have h1 := h.l.le x1 (show x ≤ s - 1 by omega) (by omega)
    have h2 := h.r.le (show m ≤ d + m - 1 - (s - 1) by omega) (show d + m - 1 - (s - 1) ≤ y by omega) y2
    omega
  · have hss : s < r0 := by omega
    have := q s (by omega) hss
    have h1 := h.r.le x1 (show x ≤ d + m - 1 - s by omega) (by omega)
    have h2 := h.l.le (show a ≤ s by omega) y1 y2
    omega
end Go.Proofs.YtciejmlhdmjajaaGreat
namespace Go.Proofs.YtciejmlhdmjajaaGreat
open Go.RowKit
set_option linter.unusedVariables false
set_option linter.unusedSimpArgs false

set_option maxRecDepth 2000000 in
set_option maxHeartbeats 6400000 in
theorem merge_left (q : FuncId) (hq : CmpOk q) (g n c a m b : Nat) (F : Nat → Th) (σ : Nat → Nat) (w : World) (h : Trow w g n (fun k => F (σ k))) (hn : n ≤ 1000) (hm : m = a + 1) (hmb : m < b) (hb : b ≤ n) (hW : ∀ k, (F k).w ≤ 1000000000000000) (hT : Two (fun k => (F k).w) σ a m b) :
    Calls Tryz.prog 105 #[.slice (some ⟨g, 0, none⟩) n c, .int .i64 (a : Int), .int .i64 (m : Int), .int .i64 (b : Int), .func (.func q) #[] #[]] w fun e w' => e = .returned (.tuple #[]) ∧ Fr [g] w w' ∧ ∃ τ, Trow w' g n (fun k => F (τ k)) ∧ Shuf a b σ τ ∧ SortedS (fun k => (F k).w) τ a b := by
  have i1 : (n : Int) ≤ 1000 := by omega
  have i2 : (m : Int) - (a : Int) = 1 := by omega
  have i3 : (m : Int) < (b : Int) := by omega
  have i4 : (b : Int) ≤ (n : Int) := by omega
  have H := Lib.hid (And.intro h (And.intro hq (And.intro hW hT)))
  have HM := Lib.hid hm
  clear h hq hW hT hn hm
  go_enter Tryz.func105, Tryz.ntmps105
  go_wp2_with fail
  go_loopw [10, 11] (fun u v wr => ∃ (i j : Nat), m ≤ i ∧ i ≤ j ∧ j ≤ b ∧ u = .int .i64 (i : Int) ∧ v = .int .i64 (j : Int) ∧ (∀ k, m ≤ k → k < i → (F (σ k)).w < (F (σ a)).w) ∧ (∀ k, j ≤ k → k < b → (F (σ a)).w ≤ (F (σ k)).w) ∧ Fr [] w wr) (fun u v _ => (intOf v).toNat - (intOf u).toNat)
  case atStart => exact ⟨m, b, Nat.le_refl _, by omega, Nat.le_refl _, rfl, rfl, fun k h1 h2 => by omega, fun k h1 h2 => by omega, Fr.refl _ _⟩
  case round =>
    obtain ⟨i, j, hmi, hij, hjb, rfl, rfl, p, r, hf⟩ := hrel
    by_cases hlt : i < j
    · have hli : (i : Int) < (j : Int) := by omega
      have hji : (j : Int) ≤ (b : Int) := by omega
      obtain ⟨x, hx⟩ : ∃ x, (i + j) / 2 = x := ⟨_, rfl⟩
      have ex : ((i : Int) + (j : Int)) / 2 = (x : Int) := by omega
      have hxi : i ≤ x := by omega
      have hxj : x < j := by omega
      have hT0 := H.out.1.to hf (by simp)
      have d0 := hT0.c0 x (by omega)
      have d1 := hT0.c1 x (by omega)
      have d2 := hT0.c2 x (by omega)
      have e0 := hT0.c0 a (by omega)
      have e1 := hT0.c1 a (by omega)
      have e2 := hT0.c2 a (by omega)
      have hgl := hT0.lt
      have hxn : (x : Int) < (n : Int) := by omega
      have han : (a : Int) < (n : Int) := by omega
      have hcm := fun W => H.out.2.1.2 (F (σ x)) (F (σ a)) W (H.out.2.2.1 _) (H.out.2.2.1 _)
      obtain ⟨⟨pw, ps, pt⟩, hP⟩ : ∃ y, F (σ x) = y := ⟨_, rfl⟩
      obtain ⟨⟨qw, qs, qt⟩, hQ⟩ : ∃ y, F (σ a) = y := ⟨_, rfl⟩
      simp only [hP, hQ] at d0 d1 d2 e0 e1 e2 hcm
      have HS := Lib.hid (And.intro p (And.intro r (And.intro hf (And.intro hP hQ))))
      unfold tv at hcm
      have HC := Lib.hid hcm
      clear p r hf hx hT0 hcm hP hQ
      by_cases hcl : pw < qw
      · rw [cmp_neg hcl] at HC
        have HCL := Lib.hid hcl
        clear hcl
        go_wp2_with fail
        refine wp_region_quiet_tail 9 (by kernel_rfl) (by kernel_rfl) ?_
        simp only [List.take_succ_cons, List.take_zero, List.drop_succ_cons, List.drop_zero]
        repeat go_big_quiet_step (fail)
        refine wpQuiet_nil ?_
        have hen := H.out.2.1.1
        go_wp2_with fail
        refine (HC.out _).mono ?_
        rintro e w5 ⟨rfl, f5⟩
        have H5 := Lib.hid ((Fr.drew (Fr.refl [] wr)).trans f5)
        clear f5 hen
        go_wp2_with fail
        go_roundw
        case rel =>
          obtain ⟨p, r, hf, hP, hQ⟩ := HS.out
          refine ⟨x + 1, j, by omega, by omega, hjb, by go_num, rfl, fun k h1 h2 => ?_, r, hf.trans H5.out⟩
          have := H.out.2.2.2.r.le h1 (show k ≤ x by omega) (by omega)
          rw [hQ]
          have h3 := HCL.out
          simp only [hP] at this
          show _ < qw
          omega
        case measure => simp [intOf]; omega
      · obtain ⟨hc0, hc1⟩ := cmp_pos hcl
        obtain ⟨cr, hcr⟩ : ∃ cr, cmpI pw qw = cr := ⟨_, rfl⟩
        rw [hcr] at HC hc0 hc1
        have HCL := Lib.hid hcl
        clear hcl hcr
        go_wp2_with fail
        refine wp_region_quiet_tail 9 (by kernel_rfl) (by kernel_rfl) ?_
        simp only [List.take_succ_cons, List.take_zero, List.drop_succ_cons, List.drop_zero]
        repeat go_big_quiet_step (fail)
        refine wpQuiet_nil ?_
        have hen := H.out.2.1.1
        go_wp2_with fail
        refine (HC.out _).mono ?_
        rintro e w5 ⟨rfl, f5⟩
        have H5 := Lib.hid ((Fr.drew (Fr.refl [] wr)).trans f5)
        clear f5 hen
        go_wp2_with fail
        go_roundw
        case rel =>
          obtain ⟨p, r, hf, hP, hQ⟩ := HS.out
          refine ⟨i, x, by omega, by omega, by omega, rfl, rfl, p, fun k h1 h2 => ?_, hf.trans H5.out⟩
          have := H.out.2.2.2.r.le (show m ≤ x by omega) h1 h2
          rw [hQ]
          have h3 := HCL.out
          simp only [hP] at this
          show qw ≤ _
          omega
        case measure => simp [intOf]; omega
    · obtain rfl : i = j := by omega
      have HS := Lib.hid (And.intro p (And.intro r hf))
      clear p r hf
      have hip : 0 ≤ (i : Int) - 1 := by omega
      have hib : (i : Int) ≤ (b : Int) := by omega
      go_wp2_with fail
      obtain ⟨wo, hwo⟩ : ∃ wo, wo = wr := ⟨wr, rfl⟩
      subst hwo
      go_loopw [13] (fun v wr => ∃ (k : Nat), a ≤ k ∧ k + 1 ≤ i ∧ v = .int .i64 (k : Int) ∧ Trow wr g n (fun z => F (rotF σ a (a + 1) (k + 1) z)) ∧ Fr [g] wo wr) (fun v _ => i - (intOf v).toNat)
      case atStart =>
        have := HM.out
        refine ⟨a, Nat.le_refl _, by omega, rfl, (H.out.1.to HS.out.2.2 (by simp)).congr fun z _ => ?_, Fr.refl _ _⟩
        rw [rot_same σ a (a + 1) (a + 1) (.inr rfl) (by omega) (by omega)]
      case round =>
        obtain ⟨k, hak, hki, rfl, hT, hf⟩ := hrel
        have hm := HM.out
        by_cases hk : k + 1 < i
        · obtain ⟨y, hy⟩ : ∃ y, k + 1 = y := ⟨_, rfl⟩
          have ey : (k : Int) + 1 = (y : Int) := by omega
          have hkn : (k : Int) < (i : Int) - 1 := by omega
          have hk0 : (k : Int) < (n : Int) := by omega
          have hy0 : (y : Int) < (n : Int) := by omega
          have hsw := hT.swap k y (by omega) (by omega)
          have x0 := hT.c0 k (by omega)
          have x1 := hT.c1 k (by omega)
          have x2 := hT.c2 k (by omega)
          have y0 := hT.c0 y (by omega)
          have y1 := hT.c1 y (by omega)
          have y2 := hT.c2 y (by omega)
          have z0 := hT.fz (k * 3)
          have z1 := hT.fz (k * 3 + 1)
          have z2 := hT.fz (k * 3 + 2)
          have v0 := hT.fz (y * 3)
          have v1 := hT.fz (y * 3 + 1)
          have v2 := hT.fz (y * 3 + 2)
          have hne : k ≠ y := by omega
          obtain ⟨⟨pw, ps, pt⟩, hP⟩ : ∃ x, F (rotF σ a (a + 1) (k + 1) k) = x := ⟨_, rfl⟩
          obtain ⟨⟨qw, qs, qt⟩, hQ⟩ : ∃ x, F (rotF σ a (a + 1) (k + 1) y) = x := ⟨_, rfl⟩
          simp only [hP, hQ] at x0 x1 x2 y0 y1 y2 hsw
          have hfs := (putTh_fr wr g k ⟨qw, qs, qt⟩).trans (putTh_fr _ g y ⟨pw, ps, pt⟩)
          simp only [putTh] at hsw hfs
          have H5 := Lib.hid (And.intro hsw (And.intro hfs (And.intro hf hy)))
          clear hT hf hsw hfs hP hQ hm hy
          go_wp2_with fail
          go_region
          go_wp2_with fail
          go_roundw
          case rel =>
            obtain ⟨h1, h2, h3, h4⟩ := H5.out
            refine ⟨y, by omega, by omega, rfl, ?_, h3.trans (Fr.drew h2)⟩
            refine (h1.to (Fr.drew (Fr.refl [] _)) (by simp)).congr fun z _ => ?_
            rw [swapF_comp F (rotF σ a (a + 1) (k + 1)), ← h4, rot_up σ a k z hak]
          case measure => simp [intOf]; omega
        · have hkn : (i : Int) - 1 ≤ (k : Int) := by omega
          have hke : k + 1 = i := by omega
          rw [hke, ← hm] at hT
          have HK := Lib.hid (And.intro hT hf)
          clear hT hf hm hke
          go_wp2_with fail
          ((try simp only [Exit.inBlock, Exit.then]); refine bodyPost_ret (results_none rfl _ _ _) rfl ?_)
          exact ⟨rfl, HS.out.2.2.nil.trans HK.out.2, _, HK.out.1, H.out.2.2.2.one_left i HM.out hmi (by omega) HS.out.1 HS.out.2.1⟩
end Go.Proofs.YtciejmlhdmjajaaGreat
namespace Go.Proofs.YtciejmlhdmjajaaGreat
open Go.RowKit
set_option linter.unusedVariables false
set_option linter.unusedSimpArgs false

set_option maxRecDepth 2000000 in
set_option maxHeartbeats 6400000 in
theorem merge_right (q : FuncId) (hq : CmpOk q) (g n c a m b : Nat) (F : Nat → Th) (σ : Nat → Nat) (w : World) (h : Trow w g n (fun k => F (σ k))) (hn : n ≤ 1000) (ham : a + 1 < m) (hm : b = m + 1) (hb : b ≤ n) (hW : ∀ k, (F k).w ≤ 1000000000000000) (hT : Two (fun k => (F k).w) σ a m b) :
    Calls Tryz.prog 105 #[.slice (some ⟨g, 0, none⟩) n c, .int .i64 (a : Int), .int .i64 (m : Int), .int .i64 (b : Int), .func (.func q) #[] #[]] w fun e w' => e = .returned (.tuple #[]) ∧ Fr [g] w w' ∧ ∃ τ, Trow w' g n (fun k => F (τ k)) ∧ Shuf a b σ τ ∧ SortedS (fun k => (F k).w) τ a b := by
  have i1 : (n : Int) ≤ 1000 := by omega
  have i2 : (a : Int) + 1 < (m : Int) := by omega
  have i3 : (b : Int) - (m : Int) = 1 := by omega
  have i5 : ((m : Int) - (a : Int) == 1) = false := by simp; omega
  have i6 : ¬ (m : Int) - (a : Int) = 1 := by omega
  have i4 : (b : Int) ≤ (n : Int) := by omega
  have H := Lib.hid (And.intro h (And.intro hq (And.intro hW hT)))
  have HM := Lib.hid hm
  clear h hq hW hT hn hm
  go_enter Tryz.func105, Tryz.ntmps105
  go_wp2_with fail
  go_loopw [14, 15] (fun u v wr => ∃ (i j : Nat), a ≤ i ∧ i ≤ j ∧ j ≤ m ∧ u = .int .i64 (i : Int) ∧ v = .int .i64 (j : Int) ∧ (∀ k, a ≤ k → k < i → (F (σ k)).w ≤ (F (σ m)).w) ∧ (∀ k, j ≤ k → k < m → (F (σ m)).w < (F (σ k)).w) ∧ Fr [] w wr) (fun u v _ => (intOf v).toNat - (intOf u).toNat)
  case atStart => exact ⟨a, m, Nat.le_refl _, by omega, Nat.le_refl _, rfl, rfl, fun k h1 h2 => by omega, fun k h1 h2 => by omega, Fr.refl _ _⟩
  case round =>
    obtain ⟨i, j, hai, hij, hjb, rfl, rfl, p, r, hf⟩ := hrel
    by_cases hlt : i < j
    · have hli : (i : Int) < (j : Int) := by omega
      have hji : (j : Int) ≤ (m : Int) := by omega
      obtain ⟨x, hx⟩ : ∃ x, (i + j) / 2 = x := ⟨_, rfl⟩
      have ex : ((i : Int) + (j : Int)) / 2 = (x : Int) := by omega
      have hxi : i ≤ x := by omega
      have hxj : x < j := by omega
      have hT0 := H.out.1.to hf (by simp)
      have d0 := hT0.c0 x (by omega)
      have d1 := hT0.c1 x (by omega)
      have d2 := hT0.c2 x (by omega)
      have e0 := hT0.c0 m (by omega)
      have e1 := hT0.c1 m (by omega)
      have e2 := hT0.c2 m (by omega)
      have hgl := hT0.lt
      have hxn : (x : Int) < (n : Int) := by omega
      have han : (m : Int) < (n : Int) := by omega
      have hcm := fun W => H.out.2.1.2 (F (σ m)) (F (σ x)) W (H.out.2.2.1 _) (H.out.2.2.1 _)
      obtain ⟨⟨pw, ps, pt⟩, hP⟩ : ∃ y, F (σ x) = y := ⟨_, rfl⟩
      obtain ⟨⟨qw, qs, qt⟩, hQ⟩ : ∃ y, F (σ m) = y := ⟨_, rfl⟩
      simp only [hP, hQ] at d0 d1 d2 e0 e1 e2 hcm
      have HS := Lib.hid (And.intro p (And.intro r (And.intro hf (And.intro hP hQ))))
      unfold tv at hcm
      have HC := Lib.hid hcm
      clear p r hf hx hT0 hcm hP hQ
      by_cases hcl : qw < pw
      · rw [cmp_neg hcl] at HC
        have HCL := Lib.hid hcl
        clear hcl
        go_wp2_with fail
        refine wp_region_quiet_tail 9 (by kernel_rfl) (by kernel_rfl) ?_
        simp only [List.take_succ_cons, List.take_zero, List.drop_succ_cons, List.drop_zero]
        repeat go_big_quiet_step (fail)
        refine wpQuiet_nil ?_
        have hen := H.out.2.1.1
        go_wp2_with fail
        refine (HC.out _).mono ?_
        rintro e w5 ⟨rfl, f5⟩
        have H5 := Lib.hid ((Fr.drew (Fr.refl [] wr)).trans f5)
        clear f5 hen
        go_wp2_with fail
        go_roundw
        case rel =>
          obtain ⟨p, r, hf, hP, hQ⟩ := HS.out
          refine ⟨i, x, by omega, by omega, by omega, rfl, rfl, p, fun k h1 h2 => ?_, hf.trans H5.out⟩
          have := H.out.2.2.2.l.le (show a ≤ x by omega) h1 h2
          rw [hQ]
          have h3 := HCL.out
          simp only [hP] at this
          show qw < _
          omega
        case measure => simp [intOf]; omega
      · obtain ⟨hc0, hc1⟩ := cmp_pos hcl
        obtain ⟨cr, hcr⟩ : ∃ cr, cmpI qw pw = cr := ⟨_, rfl⟩
        rw [hcr] at HC hc0 hc1
        have hnb : decide (cr < 0) = false := by simp; omega
        have HCL := Lib.hid hcl
        clear hcl hcr
        go_wp2_with fail
        refine wp_region_quiet_tail 9 (by kernel_rfl) (by kernel_rfl) ?_
        simp only [List.take_succ_cons, List.take_zero, List.drop_succ_cons, List.drop_zero]
        repeat go_big_quiet_step (fail)
        refine wpQuiet_nil ?_
        have hen := H.out.2.1.1
        go_wp2_with fail
        refine (HC.out _).mono ?_
        rintro e w5 ⟨rfl, f5⟩
        have H5 := Lib.hid ((Fr.drew (Fr.refl [] wr)).trans f5)
        clear f5 hen
        go_wp2_with fail
        go_roundw
        case rel =>
          obtain ⟨p, r, hf, hP, hQ⟩ := HS.out
          refine ⟨x + 1, j, by omega, by omega, hjb, by go_num, rfl, fun k h1 h2 => ?_, r, hf.trans H5.out⟩
          have := H.out.2.2.2.l.le h1 (show k ≤ x by omega) (by omega)
          rw [hQ]
          have h3 := HCL.out
          simp only [hP] at this
          show _ ≤ qw
          omega
        case measure => simp [intOf]; omega
    · obtain rfl : i = j := by omega
      have HS := Lib.hid (And.intro p (And.intro r hf))
      clear p r hf
      have hib : (i : Int) ≤ (m : Int) := by omega
      go_wp2_with fail
      obtain ⟨wo, hwo⟩ : ∃ wo, wo = wr := ⟨wr, rfl⟩
      subst hwo
      go_loopw [17] (fun v wr => ∃ (k : Nat), i ≤ k ∧ k ≤ m ∧ v = .int .i64 (k : Int) ∧ Trow wr g n (fun z => F (rotF σ k m (m + 1) z)) ∧ Fr [g] wo wr) (fun v _ => (intOf v).toNat)
      case atStart =>
        refine ⟨m, by omega, Nat.le_refl _, rfl, (H.out.1.to HS.out.2.2 (by simp)).congr fun z _ => ?_, Fr.refl _ _⟩
        rw [rot_same σ m m (m + 1) (.inl rfl) (by omega) (by omega)]
      case round =>
        obtain ⟨k, hik, hkm, rfl, hT, hf⟩ := hrel
        have hm := HM.out
        by_cases hk : i < k
        · obtain ⟨r, rfl⟩ : ∃ r, r = k := ⟨k, rfl⟩
          obtain ⟨y, hy⟩ : ∃ y, y + 1 = r := ⟨r - 1, by omega⟩
          have ey : (r : Int) - 1 = (y : Int) := by omega
          have hkn : (i : Int) < (r : Int) := by omega
          have hk0 : (r : Int) < (n : Int) := by omega
          have hy0 : (y : Int) < (n : Int) := by omega
          have hsw := hT.swap r y (by omega) (by omega)
          have x0 := hT.c0 r (by omega)
          have x1 := hT.c1 r (by omega)
          have x2 := hT.c2 r (by omega)
          have y0 := hT.c0 y (by omega)
          have y1 := hT.c1 y (by omega)
          have y2 := hT.c2 y (by omega)
          have z0 := hT.fz (r * 3)
          have z1 := hT.fz (r * 3 + 1)
          have z2 := hT.fz (r * 3 + 2)
          have v0 := hT.fz (y * 3)
          have v1 := hT.fz (y * 3 + 1)
          have v2 := hT.fz (y * 3 + 2)
          have hne : r ≠ y := by omega
          obtain ⟨⟨pw, ps, pt⟩, hP⟩ : ∃ x, F (rotF σ r m (m + 1) r) = x := ⟨_, rfl⟩
          obtain ⟨⟨qw, qs, qt⟩, hQ⟩ : ∃ x, F (rotF σ r m (m + 1) y) = x := ⟨_, rfl⟩
          simp only [hP, hQ] at x0 x1 x2 y0 y1 y2 hsw
          have hfs := (putTh_fr wr g r ⟨qw, qs, qt⟩).trans (putTh_fr _ g y ⟨pw, ps, pt⟩)
          simp only [putTh] at hsw hfs
          have H5 := Lib.hid (And.intro hsw (And.intro hfs (And.intro hf hy)))
          clear hT hf hsw hfs hP hQ hm hy
          go_wp2_with fail
          go_region
          go_wp2_with fail
          go_roundw
          case rel =>
            obtain ⟨h1, h2, h3, h4⟩ := H5.out
            refine ⟨y, by omega, by omega, rfl, ?_, h3.trans (Fr.drew h2)⟩
            refine (h1.to (Fr.drew (Fr.refl [] _)) (by simp)).congr fun z _ => ?_
            rw [swapF_comp F (rotF σ r m (m + 1)), ← h4, rot_down σ m y z (by omega)]
          case measure => simp [intOf]; omega
        · have hkn : (k : Int) ≤ (i : Int) := by omega
          have hke : k = i := by omega
          rw [hke, ← hm] at hT
          have HK := Lib.hid (And.intro hT hf)
          clear hT hf hm hke
          go_wp2_with fail
          ((try simp only [Exit.inBlock, Exit.then]); refine bodyPost_ret (results_none rfl _ _ _) rfl ?_)
          exact ⟨rfl, HS.out.2.2.nil.trans HK.out.2, _, HK.out.1, H.out.2.2.2.one_right i HM.out hai (by omega) HS.out.1 HS.out.2.1⟩
end Go.Proofs.YtciejmlhdmjajaaGreat
namespace Go.Proofs.YtciejmlhdmjajaaGreat
open Go.RowKit
set_option linter.unusedVariables false
set_option linter.unusedSimpArgs false

/-- The contract of merging, for ranges of no more than N. -/
def MergeOk (N : Nat) : Prop := ∀ (q : FuncId) (hq : CmpOk q) (g n c a m b : Nat) (F : Nat → Th) (σ : Nat → Nat) (w : World) (h : Trow w g n (fun k => F (σ k))) (hn : n ≤ 1000) (ham : a < m) (hmb : m < b) (hb : b ≤ n) (hW : ∀ k, (F k).w ≤ 1000000000000000) (hT : Two (fun k => (F k).w) σ a m b) (hN : b - a ≤ N),
    Calls Tryz.prog 105 #[.slice (some ⟨g, 0, none⟩) n c, .int .i64 (a : Int), .int .i64 (m : Int), .int .i64 (b : Int), .func (.func q) #[] #[]] w fun e w' => e = .returned (.tuple #[]) ∧ Fr [g] w w' ∧ ∃ τ, Trow w' g n (fun k => F (τ k)) ∧ Shuf a b σ τ ∧ SortedS (fun k => (F k).w) τ a b

set_option maxRecDepth 2000000 in
set_option maxHeartbeats 12800000 in
theorem merge_gen (N : Nat) (IH : MergeOk N) (q : FuncId) (hq : CmpOk q) (g n c a m b : Nat) (F : Nat → Th) (σ : Nat → Nat) (w : World) (h : Trow w g n (fun k => F (σ k))) (hn : n ≤ 1000) (ham : a + 1 < m) (hmb : m + 1 < b) (hb : b ≤ n) (hW : ∀ k, (F k).w ≤ 1000000000000000) (hT : Two (fun k => (F k).w) σ a m b) (hN : b - a ≤ N + 1) :
    Calls Tryz.prog 105 #[.slice (some ⟨g, 0, none⟩) n c, .int .i64 (a : Int), .int .i64 (m : Int), .int .i64 (b : Int), .func (.func q) #[] #[]] w fun e w' => e = .returned (.tuple #[]) ∧ Fr [g] w w' ∧ ∃ τ, Trow w' g n (fun k => F (τ k)) ∧ Shuf a b σ τ ∧ SortedS (fun k => (F k).w) τ a b := by
  have i1 : (n : Int) ≤ 1000 := by omega
  have i2 : (a : Int) + 1 < (m : Int) := by omega
  have i3 : (m : Int) + 1 < (b : Int) := by omega
  have i4 : (b : Int) ≤ (n : Int) := by omega
  have j1 : ((m : Int) - (a : Int) == 1) = false := by simp; omega
  have j2 : ¬ (m : Int) - (a : Int) = 1 := by omega
  have j3 : ((b : Int) - (m : Int) == 1) = false := by simp; omega
  have j4 : ¬ (b : Int) - (m : Int) = 1 := by omega
  obtain ⟨d, hd⟩ : ∃ d, d = (a + b) / 2 := ⟨_, rfl⟩
  obtain ⟨s0, r0, h0⟩ : ∃ s0 r0, d < m ∧ s0 = d + m - b ∧ r0 = d ∨ m ≤ d ∧ s0 = a ∧ r0 = m := by
    by_cases hdm : d < m
    · exact ⟨_, _, .inl ⟨hdm, rfl, rfl⟩⟩
    · exact ⟨_, _, .inr ⟨by omega, rfl, rfl⟩⟩
  obtain ⟨nn, hnn⟩ : ∃ nn, nn = d + m := ⟨_, rfl⟩
  obtain ⟨p, hp⟩ : ∃ p, p = nn - 1 := ⟨_, rfl⟩
  have ed : ((a : Int) + (b : Int)) / 2 = (d : Int) := by omega
  have en : (d : Int) + (m : Int) = (nn : Int) := by omega
  have ep : (nn : Int) - 1 = (p : Int) := by omega
  have k1 : (nn : Int) ≤ 2000 := by omega
  have k2 : (d : Int) ≤ (b : Int) := by omega
  have H := Lib.hid (And.intro h (And.intro hq (And.intro hW hT)))
  have HI := Lib.hid (And.intro IH hN)
  have HD := Lib.hid (And.intro hd (And.intro h0 (And.intro hnn hp)))
  have HN := Lib.hid hn
  clear h hq hW hT hn IH hN hd h0 hnn hp
  go_enter Tryz.func105, Tryz.ntmps105
  go_upto_if 140 with fail
  go_cut [20, 21] from 141 to 146 (fun s r wx => s = .int .i64 (s0 : Int) ∧ r = .int .i64 (r0 : Int) ∧ wx = w)
  case first =>
    obtain ⟨hd, h0, hnn, hp⟩ := HD.out
    rcases h0 with ⟨h1, h2, h3⟩ | ⟨h1, h2, h3⟩
    · have z1 : (d : Int) < (m : Int) := by omega
      have z2 : (nn : Int) - (b : Int) = (s0 : Int) := by omega
      have z3 : (d : Int) = (r0 : Int) := by omega
      have Z3 := Lib.hid z3
      clear hd hnn hp h1 h2 h3 z3
      go_wp2_with fail
      go_meet
      case rel => exact ⟨rfl, by rw [Z3.out], rfl⟩
    · have z1 : (m : Int) ≤ (d : Int) := by omega
      have z2 : (a : Int) = (s0 : Int) := by omega
      have z3 : (m : Int) = (r0 : Int) := by omega
      have Z3 := Lib.hid (And.intro z2 z3)
      clear hd hnn hp h1 h2 h3 z2 z3
      go_wp2_with fail
      go_meet
      case rel => exact ⟨by rw [Z3.out.1], by rw [Z3.out.2], rfl⟩
  case rest =>
  obtain ⟨rfl, rfl, hwc⟩ := hcut
  replace hwc := hwc.symm
  subst hwc
  go_wp2_with fail
  go_loopw [20, 21] (fun u v wr => ∃ (i j : Nat), s0 ≤ i ∧ i ≤ j ∧ j ≤ r0 ∧ u = .int .i64 (i : Int) ∧ v = .int .i64 (j : Int) ∧ (∀ k, s0 ≤ k → k < i → (F (σ k)).w ≤ (F (σ (d + m - 1 - k))).w) ∧ (∀ k, j ≤ k → k < r0 → (F (σ (d + m - 1 - k))).w < (F (σ k)).w) ∧ Fr [] w wr) (fun u v _ => (intOf v).toNat - (intOf u).toNat)
  case atStart =>
    obtain ⟨hd, h0, hnn, hp⟩ := HD.out
    exact ⟨s0, r0, Nat.le_refl _, by omega, Nat.le_refl _, rfl, rfl, fun k h1 h2 => by omega, fun k h1 h2 => by omega, Fr.refl _ _⟩
  case round =>
    obtain ⟨i, j, hsi, hij, hjr, rfl, rfl, pp, rr, hf⟩ := hrel
    by_cases hlt : i < j
    · obtain ⟨hd, h0, hnn, hp⟩ := HD.out
      have hli : (i : Int) < (j : Int) := by omega
      have hji : (j : Int) ≤ (b : Int) := by omega
      obtain ⟨x, hx⟩ : ∃ x, (i + j) / 2 = x := ⟨_, rfl⟩
      obtain ⟨y, hy⟩ : ∃ y, d + m - 1 - x = y := ⟨_, rfl⟩
      have ex : ((i : Int) + (j : Int)) / 2 = (x : Int) := by omega
      have ey : (p : Int) - (x : Int) = (y : Int) := by omega
      have hxi : i ≤ x := by omega
      have hxj : x < j := by omega
      have hax : a ≤ x := by omega
      have hxm : x < m := by omega
      have hmy : m ≤ y := by omega
      have hyb : y < b := by omega
      have hT0 := H.out.1.to hf (by simp)
      have d0 := hT0.c0 x (by omega)
      have d1 := hT0.c1 x (by omega)
      have d2 := hT0.c2 x (by omega)
      have e0 := hT0.c0 y (by omega)
      have e1 := hT0.c1 y (by omega)
      have e2 := hT0.c2 y (by omega)
      have hgl := hT0.lt
      have hxn : (x : Int) < (n : Int) := by omega
      have han : (y : Int) < (n : Int) := by omega
      have hcm := fun W => H.out.2.1.2 (F (σ y)) (F (σ x)) W (H.out.2.2.1 _) (H.out.2.2.1 _)
      obtain ⟨⟨pw, ps, pt⟩, hP⟩ : ∃ z, F (σ x) = z := ⟨_, rfl⟩
      obtain ⟨⟨qw, qs, qt⟩, hQ⟩ : ∃ z, F (σ y) = z := ⟨_, rfl⟩
      simp only [hP, hQ] at d0 d1 d2 e0 e1 e2 hcm
      have HS := Lib.hid (And.intro pp (And.intro rr (And.intro hf (And.intro hP (And.intro hQ hy)))))
      unfold tv at hcm
      have HC := Lib.hid hcm
      clear pp rr hf hx hT0 hcm hP hQ hy hd h0 hnn hp
      by_cases hcl : qw < pw
      · rw [cmp_neg hcl] at HC
        have HCL := Lib.hid hcl
        clear hcl
        go_wp2_with fail
        refine wp_region_quiet_tail 11 (by kernel_rfl) (by kernel_rfl) ?_
        simp only [List.take_succ_cons, List.take_zero, List.drop_succ_cons, List.drop_zero]
        repeat go_big_quiet_step (fail)
        refine wpQuiet_nil ?_
        have hen := H.out.2.1.1
        go_wp2_with fail
        refine (HC.out _).mono ?_
        rintro e w5 ⟨rfl, f5⟩
        have H5 := Lib.hid ((Fr.drew (Fr.refl [] wr)).trans f5)
        clear f5 hen
        go_wp2_with fail
        go_roundw
        case rel =>
          obtain ⟨pp, rr, hf, hP, hQ, hy⟩ := HS.out
          obtain ⟨hd, h0, hnn, hp⟩ := HD.out
          refine ⟨i, x, by omega, by omega, by omega, rfl, rfl, pp, fun k h1 h2 => ?_, hf.trans H5.out⟩
          have l1 := H.out.2.2.2.l.le hax h1 (by omega)
          have l2 := H.out.2.2.2.r.le (show m ≤ d + m - 1 - k by omega) (show d + m - 1 - k ≤ y by omega) hyb
          have h3 := HCL.out
          simp only [hP, hQ] at l1 l2
          omega
        case measure => simp [intOf]; omega
      · obtain ⟨hc0, hc1⟩ := cmp_pos hcl
        obtain ⟨cr, hcr⟩ : ∃ cr, cmpI qw pw = cr := ⟨_, rfl⟩
        rw [hcr] at HC hc0 hc1
        have hnb : decide (cr < 0) = false := by simp; omega
        have HCL := Lib.hid hcl
        clear hcl hcr
        go_wp2_with fail
        refine wp_region_quiet_tail 11 (by kernel_rfl) (by kernel_rfl) ?_
        simp only [List.take_succ_cons, List.take_zero, List.drop_succ_cons, List.drop_zero]
        repeat go_big_quiet_step (fail)
        refine wpQuiet_nil ?_
        have hen := H.out.2.1.1
        go_wp2_with fail
        refine (HC.out _).mono ?_
        rintro e w5 ⟨rfl, f5⟩
        have H5 := Lib.hid ((Fr.drew (Fr.refl [] wr)).trans f5)
        clear f5 hen
        go_wp2_with fail
        go_roundw
        case rel =>
          obtain ⟨pp, rr, hf, hP, hQ, hy⟩ := HS.out
          obtain ⟨hd, h0, hnn, hp⟩ := HD.out
          refine ⟨x + 1, j, by omega, by omega, by omega, by go_num, rfl, fun k h1 h2 => ?_, rr, hf.trans H5.out⟩
          have l1 := H.out.2.2.2.l.le (show a ≤ k by omega) (show k ≤ x by omega) hxm
          have l2 := H.out.2.2.2.r.le hmy (show y ≤ d + m - 1 - k by omega) (by omega)
          have h3 := HCL.out
          simp only [hP, hQ] at l1 l2
          omega
        case measure => simp [intOf]; omega
    · obtain rfl : i = j := by omega
      obtain ⟨hd, h0, hnn, hp⟩ := HD.out
      obtain ⟨g1, g2, g3, g4, g5, g6, hcut⟩ := H.out.2.2.2.sym (by omega) (by omega) s0 r0 i d hd h0 hsi hjr pp rr
      obtain ⟨e, he⟩ : ∃ e, d + m - i = e := ⟨_, rfl⟩
      rw [he] at g3 g4 g6 hcut
      have ee : (nn : Int) - (i : Int) = (e : Int) := by omega
      have hdb : d < b := by omega
      have had : a < d := by omega
      have q1 : (i : Int) ≤ (m : Int) := by omega
      have q2 : (m : Int) ≤ (e : Int) := by omega
      have q3 : (e : Int) ≤ (b : Int) := by omega
      have q4 : (i : Int) ≤ (d : Int) := by omega
      have q5 : (d : Int) ≤ (e : Int) := by omega
      have q6 : (a : Int) ≤ (i : Int) := by omega
      have HS := Lib.hid (And.intro hf (And.intro hcut he))
      clear pp rr hf hcut he hd h0 hnn hp
      go_upto_region 39 with fail
      go_cut [185] from 178 to 184 (fun t wx => t = .bool (decide (i < m ∧ m < e)) ∧ wx = wr)
      case first =>
        by_cases c1 : i < m
        · have z1 : (i : Int) < (m : Int) := by omega
          by_cases c2 : m < e
          · have z2 : (m : Int) < (e : Int) := by omega
            go_wp2_with fail
            go_meet
            case rel => exact ⟨by simp [c1, c2], rfl⟩
          · have z2 : (e : Int) ≤ (m : Int) := by omega
            go_wp2_with fail
            go_meet
            case rel => exact ⟨by simp [c1, c2], rfl⟩
        · have z1 : (m : Int) ≤ (i : Int) := by omega
          go_wp2_with fail
          go_meet
          case rel => exact ⟨by simp [c1], rfl⟩
      case rest =>
      obtain ⟨rfl, hwc⟩ := hcut
      replace hwc := hwc.symm
      subst hwc
      go_upto_if 185 with fail
      go_cut [] from 185 to 191 (fun wx => Trow wx g n (fun k => F (rotF σ i m e k)) ∧ Fr [g] w wx)
      case first =>
        by_cases c1 : i < m ∧ m < e
        · rw [decide_eq_true c1]
          have HC := Lib.hid (rotate_any g n c i m e _ wr (H.out.1.to HS.out.1 (by simp)) HN.out c1.1 c1.2 (by omega) (.func (.func q) #[] #[]))
          go_wp2_with fail
          refine HC.out.mono ?_
          rintro e1 w1 ⟨rfl, hT1, hf1⟩
          have H1 := Lib.hid (And.intro hT1 hf1)
          clear hT1 hf1
          go_wp2_with fail
          go_meet
          case rel => exact ⟨H1.out.1.congr fun k _ => (rot_comp F σ i m e k).symm, HS.out.1.nil.trans H1.out.2⟩
        · rw [decide_eq_false c1]
          have hor : i = m ∨ e = m := by omega
          have HO := Lib.hid hor
          clear hor
          go_wp2_with fail
          go_meet
          case rel => exact ⟨(H.out.1.to HS.out.1 (by simp)).congr fun k _ => by rw [rot_same σ i m e HO.out g2 g3 k], HS.out.1.nil⟩
      case rest =>
      obtain ⟨hTc, hfc⟩ := hcut
      obtain ⟨ρ, hρ⟩ : ∃ ρ, rotF σ i m e = ρ := ⟨_, rfl⟩
      rw [hρ] at hTc HS
      have HR := Lib.hid (And.intro hTc hfc)
      clear hTc hfc hρ
      go_upto_region 41 with fail
      go_cut [199] from 192 to 198 (fun t wx => t = .bool (decide (a < i ∧ i < d)) ∧ wx = wc)
      case first =>
        by_cases c1 : a < i
        · have z1 : (a : Int) < (i : Int) := by omega
          by_cases c2 : i < d
          · have z2 : (i : Int) < (d : Int) := by omega
            go_wp2_with fail
            go_meet
            case rel => exact ⟨by simp [c1, c2], rfl⟩
          · have z2 : (d : Int) ≤ (i : Int) := by omega
            go_wp2_with fail
            go_meet
            case rel => exact ⟨by simp [c1, c2], rfl⟩
        · have z1 : (i : Int) ≤ (a : Int) := by omega
          go_wp2_with fail
          go_meet
          case rel => exact ⟨by simp [c1], rfl⟩
      case rest =>
      obtain ⟨rfl, hwc⟩ := hcut
      replace hwc := hwc.symm
      subst hwc
      go_upto_if 199 with fail
      go_cut [] from 199 to 205 (fun wx => ∃ α, Trow wx g n (fun k => F (α k)) ∧ Shuf a d ρ α ∧ SortedS (fun k => (F k).w) α a d ∧ Fr [g] w wx)
      case first =>
        by_cases c1 : a < i ∧ i < d
        · rw [decide_eq_true c1]
          have HC := Lib.hid (HI.out.1 q H.out.2.1 g n c a i d F ρ _ HR.out.1 HN.out c1.1 c1.2 (by omega) H.out.2.2.1 ⟨HS.out.2.1.s1, HS.out.2.1.s2, HS.out.2.1.t1⟩ (by have := HI.out.2; omega))
          go_wp2_with fail
          refine HC.out.mono ?_
          rintro e1 w1 ⟨rfl, hf1, hT1⟩
          have H1 := Lib.hid (And.intro hT1 hf1)
          clear hT1 hf1
          go_wp2_with fail
          go_meet
          case rel =>
            obtain ⟨α, t1, t2, t3⟩ := H1.out.1
            exact ⟨α, t1, t2, t3, HR.out.2.trans H1.out.2⟩
        · rw [decide_eq_false c1]
          have HO := Lib.hid c1
          clear c1
          go_wp2_with fail
          go_meet
          case rel =>
            have c1 := HO.out
            have hc := HS.out.2.1
            refine ⟨ρ, HR.out.1, Shuf.refl _ _ _, ?_, HR.out.2⟩
            by_cases c2 : a < i
            · have : i = d := by omega
              rw [← this]
              exact hc.s1
            · have : i = a := by omega
              rw [← this]
              exact hc.s2
      case rest =>
      obtain ⟨α, hTc, hsh, hso, hfc⟩ := hcut
      have HA := Lib.hid (And.intro hTc (And.intro hsh (And.intro hso hfc)))
      clear hTc hsh hso hfc
      go_upto_region 43 with fail
      go_cut [213] from 206 to 212 (fun t wx => t = .bool (decide (d < e ∧ e < b)) ∧ wx = wc)
      case first =>
        by_cases c1 : d < e
        · have z1 : (d : Int) < (e : Int) := by omega
          by_cases c2 : e < b
          · have z2 : (e : Int) < (b : Int) := by omega
            go_wp2_with fail
            go_meet
            case rel => exact ⟨by simp [c1, c2], rfl⟩
          · have z2 : (b : Int) ≤ (e : Int) := by omega
            go_wp2_with fail
            go_meet
            case rel => exact ⟨by simp [c1, c2], rfl⟩
        · have z1 : (e : Int) ≤ (d : Int) := by omega
          go_wp2_with fail
          go_meet
          case rel => exact ⟨by simp [c1], rfl⟩
      case rest =>
      obtain ⟨rfl, hwc⟩ := hcut
      replace hwc := hwc.symm
      subst hwc
      by_cases c1 : d < e ∧ e < b
      · rw [decide_eq_true c1]
        have hc := HS.out.2.1
        have h3 : SortedS (fun k => (F k).w) α d e := hc.s3.congr fun k k1 k2 => HA.out.2.1.1 k (by omega)
        have h4 : SortedS (fun k => (F k).w) α e b := hc.s4.congr fun k k1 k2 => HA.out.2.1.1 k (by omega)
        have h5 : ∀ i j, d ≤ i → i < e → e ≤ j → j < b → α i < α j := fun i j k1 k2 k3 k4 => by
          rw [HA.out.2.1.1 i (by omega), HA.out.2.1.1 j (by omega)]
          exact hc.t2 i j k1 k2 k3 k4
        have HC := Lib.hid (HI.out.1 q H.out.2.1 g n c d e b F α _ HA.out.1 HN.out c1.1 c1.2 (by omega) H.out.2.2.1 ⟨h3, h4, h5⟩ (by have := HI.out.2; omega))
        clear hc h3 h4 h5
        go_wp2_with fail
        refine HC.out.mono ?_
        rintro e1 w1 ⟨rfl, hf1, hT1⟩
        have H1 := Lib.hid (And.intro hT1 hf1)
        clear hT1 hf1
        go_wp2_with fail
        refine bodyPost_end (v := .tuple #[]) (by simp [results, Tryz.results105, go_sem]) rfl ?_
        obtain ⟨τ, t1, t2, t3⟩ := H1.out.1
        exact ⟨rfl, HA.out.2.2.2.trans H1.out.2, τ, t1, HS.out.2.1.merged (by omega) (by omega) HA.out.2.1 t2 HA.out.2.2.1 t3⟩
      · rw [decide_eq_false c1]
        have HO := Lib.hid c1
        clear c1
        go_wp2_with fail
        refine bodyPost_end (v := .tuple #[]) (by simp [results, Tryz.results105, go_sem]) rfl ?_
        have c1 := HO.out
        have hc := HS.out.2.1
        refine ⟨rfl, HA.out.2.2.2, α, HA.out.1, hc.merged (by omega) (by omega) HA.out.2.1 (Shuf.refl _ _ _) HA.out.2.2.1 ?_⟩
        by_cases c2 : d < e
        · have : e = b := by omega
          rw [← this]
          exact hc.s3.congr fun k k1 k2 => HA.out.2.1.1 k (by omega)
        · have : e = d := by omega
          rw [← this]
          exact hc.s4.congr fun k k1 k2 => HA.out.2.1.1 k (by omega)
theorem merge_ok (N : Nat) : MergeOk N := by
  induction N with
  | zero => intro q hq g n c a m b F σ w h hn ham hmb hb hW hT hN; omega
  | succ N ih =>
    intro q hq g n c a m b F σ w h hn ham hmb hb hW hT hN
    by_cases h1 : m = a + 1
    · exact merge_left q hq g n c a m b F σ w h hn h1 hmb hb hW hT
    · by_cases h2 : b = m + 1
      · exact merge_right q hq g n c a m b F σ w h hn (by omega) h2 hb hW hT
      · exact merge_gen N ih q hq g n c a m b F σ w h hn (by omega) (by omega) hb hW hT hN
end Go.Proofs.YtciejmlhdmjajaaGreat
namespace Go.Proofs.YtciejmlhdmjajaaGreat
open Go.RowKit
set_option linter.unusedVariables false
set_option linter.unusedSimpArgs false

/-- The block from c to d is sorted, and holds what was in it. -/
def Ok (W : Nat → Nat) (n : Nat) (ρ : Nat → Nat) (c d : Nat) : Prop := SortedS W ρ c (min d n) ∧ ∀ k, c ≤ k → k < d → k < n → c ≤ ρ k ∧ ρ k < d ∧ ρ k < n
theorem Ok.far {W : Nat → Nat} {n : Nat} {ρ : Nat → Nat} {c d : Nat} (h : n ≤ c) : Ok W n ρ c d := ⟨fun i j h1 h2 h3 => by omega, fun k h1 h2 h3 => by omega⟩
theorem Ok.wide {W : Nat → Nat} {n : Nat} {ρ : Nat → Nat} {c m d : Nat} (h : Ok W n ρ c m) (hm : n ≤ m) (hd : m ≤ d) : Ok W n ρ c d :=
  ⟨fun i j h1 h2 h3 => h.1 i j h1 h2 (by omega), fun k h1 h2 h3 => by have := h.2 k h1 (by omega) h3; omega⟩
theorem Ok.two {W : Nat → Nat} {n : Nat} {ρ : Nat → Nat} {c m d : Nat} (h : Ok W n ρ c m) (k : Ok W n ρ m d) (h1 : m < n) (h2 : m ≤ d) : Two W ρ c m (min d n) :=
  ⟨fun i j a b e => h.1 i j a b (by omega), fun i j a b e => k.1 i j a b e, fun i j a b e f => by have := h.2 i a b (by omega); have := k.2 j e (by omega) (by omega); omega⟩
theorem Ok.merged {W : Nat → Nat} {n : Nat} {ρ τ : Nat → Nat} {c m d : Nat} (h : Ok W n ρ c m) (k : Ok W n ρ m d) (h0 : c ≤ m) (h2 : m ≤ d) (hs : Shuf c (min d n) ρ τ) (hso : SortedS W τ c (min d n)) : Ok W n τ c d := by
  refine ⟨hso, fun i h3 h4 h5 => ?_⟩
  obtain ⟨j, j1, j2, j3⟩ := hs.2.1 i h3 (by omega)
  rw [j3]
  by_cases hj : j < m
  · have := h.2 j j1 hj (by omega); omega
  · have := k.2 j (by omega) (by omega) (by omega); omega
theorem Ok.keep {W : Nat → Nat} {n : Nat} {ρ τ : Nat → Nat} {c d a b : Nat} (h : Ok W n ρ c d) (hs : Shuf a b ρ τ) (hd : d ≤ a ∨ b ≤ c) : Ok W n τ c d := by
  refine ⟨h.1.congr fun k h1 h2 => hs.1 k (by omega), fun k h1 h2 h3 => ?_⟩
  rw [hs.1 k (by omega)]
  exact h.2 k h1 h2 h3
theorem dvd_step {D c a : Nat} (h1 : D ∣ c) (h2 : D ∣ a) (h : c < a) : c + D ≤ a := by
  have h3 : D ∣ a - c := Nat.dvd_sub h2 h1
  have := Nat.le_of_dvd (by omega) h3
  omega
theorem shuf_lt {n : Nat} {ρ : Nat → Nat} (h : Shuf 0 n id ρ) (k : Nat) (hk : k < n) : ρ k < n := by
  obtain ⟨j, _, h2, h3⟩ := h.2.1 k (by omega) hk
  rw [h3]; exact h2

set_option maxRecDepth 2000000 in
set_option maxHeartbeats 12800000 in
theorem stable_any (q : FuncId) (hq : CmpOk q) (g n c : Nat) (F : Nat → Th) (w : World) (h : Trow w g n F) (hn : n ≤ 1000) (hW : ∀ k, (F k).w ≤ 1000000000000000) :
    Calls Tryz.prog 99 #[.slice (some ⟨g, 0, none⟩) n c, .int .i64 (n : Int), .func (.func q) #[] #[]] w fun e w' => e = .returned (.tuple #[]) ∧ Fr [g] w w' ∧ ∃ τ, Trow w' g n (fun k => F (τ k)) ∧ Shuf 0 n id τ ∧ SortedS (fun k => (F k).w) τ 0 n := by
  have i1 : (n : Int) ≤ 1000 := by omega
  have H := Lib.hid (And.intro h (And.intro hq hW))
  have HN := Lib.hid hn
  clear h hq hW hn
  go_enter Tryz.func99, Tryz.ntmps99
  go_wp2_with fail
  go_loopw [7, 8] (fun u v wr => ∃ (a : Nat) (ρ : Nat → Nat), a ≤ n ∧ 20 ∣ a ∧ u = .int .i64 (a : Int) ∧ v = .int .i64 ((a + 20 : Nat) : Int) ∧ Trow wr g n (fun k => F (ρ k)) ∧ (∀ c, 20 ∣ c → c < a → Ok (fun k => (F k).w) n ρ c (c + 20)) ∧ (∀ k, a ≤ k → ρ k = k) ∧ Shuf 0 n id ρ ∧ Fr [g] w wr) (fun u _ _ => n - (intOf u).toNat)
  case atStart => exact ⟨0, id, by omega, ⟨0, rfl⟩, rfl, rfl, H.out.1, fun c _ h => by omega, fun _ _ => rfl, Shuf.refl _ _ _, Fr.refl _ _⟩
  case round =>
    obtain ⟨a, ρ, han, hda, rfl, rfl, hT, hok, hid', hsh, hf⟩ := hrel
    by_cases hlt : a + 20 ≤ n
    · have hli : ((a + 20 : Nat) : Int) ≤ (n : Int) := by omega
      have hai : (a : Int) + 20 ≤ (n : Int) := by omega
      have e40 : ((a + 20 : Nat) : Int) + 20 = ((a + 20 + 20 : Nat) : Int) := by omega
      have HC := Lib.hid (insertion_any q H.out.2.1 g n c a (a + 20) F ρ wr hT HN.out (by omega) hlt H.out.2.2 (fun i j h1 h2 h3 => by rw [hid' i h1, hid' j (by omega)]; exact h2))
      have HS := Lib.hid (And.intro hok (And.intro hid' (And.intro hsh (And.intro hf hda))))
      clear hT hok hid' hsh hf hda
      go_wp2_with fail
      refine HC.out.mono ?_
      rintro e1 w1 ⟨rfl, hf1, hT1⟩
      have H1 := Lib.hid (And.intro hT1 hf1)
      clear hT1 hf1
      go_wp2_with fail
      go_roundw
      case rel =>
        obtain ⟨⟨τ, t1, t2, t3⟩, hf1⟩ := H1.out
        obtain ⟨hok, hid', hsh, hf, hda⟩ := HS.out
        refine ⟨a + 20, τ, hlt, Nat.dvd_add hda (Nat.dvd_refl _), rfl, by first | rfl | (congr 1; omega), t1, fun c h1 h2 => ?_, fun k hk => ?_, hsh.trans (t2.mono (by omega) hlt), hf.trans hf1⟩
        · by_cases hca : c < a
          · exact (hok c h1 hca).keep t2 (.inl (dvd_step h1 hda hca))
          · have hce : c = a := by
              have := fun h => dvd_step hda h1 h
              omega
            subst hce
            refine ⟨fun i j k1 k2 k3 => t3 i j k1 k2 (by omega), fun k k1 k2 k3 => ?_⟩
            obtain ⟨j, j1, j2, j3⟩ := t2.2.1 k k1 k2
            rw [j3, hid' j j1]
            omega
        · rw [t2.1 k (by omega)]
          exact hid' k (by omega)
      case measure => simp [intOf]; omega
    · have hli : (n : Int) < ((a + 20 : Nat) : Int) := by omega
      have han' : (a : Int) ≤ (n : Int) := by omega
      have HC := Lib.hid (insertion_any q H.out.2.1 g n c a n F ρ wr hT HN.out han (Nat.le_refl _) H.out.2.2 (fun i j h1 h2 h3 => by rw [hid' i h1, hid' j (by omega)]; exact h2))
      have HS := Lib.hid (And.intro hok (And.intro hid' (And.intro hsh (And.intro hf (And.intro hda hlt)))))
      clear hT hok hid' hsh hf hda hlt
      go_wp2_with fail
      refine HC.out.mono ?_
      rintro e1 w1 ⟨rfl, hf1, hT1⟩
      have H1 : Hid (∃ ρ, Trow w1 g n (fun k => F (ρ k)) ∧ (∀ c, 20 ∣ c → Ok (fun k => (F k).w) n ρ c (c + 20)) ∧ Shuf 0 n id ρ ∧ Fr [g] w w1) := by
        apply Lib.hid
        obtain ⟨τ, t1, t2, t3⟩ := hT1
        obtain ⟨hok, hid', hsh, hf, hda, hlt⟩ := HS.out
        refine ⟨τ, t1, fun c h1 => ?_, hsh.trans (t2.mono (by omega) (Nat.le_refl _)), hf.trans hf1⟩
        by_cases hca : c < a
        · exact (hok c h1 hca).keep t2 (.inl (dvd_step h1 hda hca))
        · by_cases hce : c = a
          · subst hce
            refine ⟨fun i j k1 k2 k3 => t3 i j k1 k2 (by omega), fun k k1 k2 k3 => ?_⟩
            obtain ⟨j, j1, j2, j3⟩ := t2.2.1 k k1 k3
            rw [j3, hid' j j1]
            omega
          · have := dvd_step hda h1 (by omega)
            exact Ok.far (by omega)
      clear hT1 hf1
      go_wp2_with fail
      go_loopw [6, 7, 8] (fun x u v wr => ∃ (B : Nat) (ρ : Nat → Nat), 20 ≤ B ∧ B ≤ 2000 ∧ x = .int .i64 (B : Int) ∧ Trow wr g n (fun k => F (ρ k)) ∧ (∀ c, B ∣ c → Ok (fun k => (F k).w) n ρ c (c + B)) ∧ Shuf 0 n id ρ ∧ Fr [g] w wr) (fun x _ _ _ => 2001 - (intOf x).toNat)
      case atStart =>
        obtain ⟨ρ, h1, h2, h3, h4⟩ := H1.out
        exact ⟨20, ρ, by omega, by omega, rfl, h1, h2, h3, h4⟩
      case round =>
        obtain ⟨B, ρ, hB0, hB1, rfl, hT, hok, hsh, hf⟩ := hrel
        have hB0' : 20 ≤ (B : Int) := by omega
        have hB1' : (B : Int) ≤ 2000 := by omega
        by_cases hBn : B < n
        · obtain ⟨D, hD⟩ : ∃ D, 2 * B = D := ⟨_, rfl⟩
          have hBn' : (B : Int) < (n : Int) := by omega
          have eD : 2 * (B : Int) = (D : Int) := by omega
          have eD2 : (B : Int) * 2 = (D : Int) := by omega
          have hD' : (D : Int) ≤ 2000 := by omega
          have HS := Lib.hid (And.intro hT (And.intro hok (And.intro hsh (And.intro hf hD))))
          clear hT hok hsh hf hD
          go_wp2_with fail
          obtain ⟨wo, hwo⟩ : ∃ wo, wo = wr := ⟨wr, rfl⟩
          subst hwo
          go_loopw [7, 8] (fun u v wr => ∃ (a b : Nat) (τ : Nat → Nat), a ≤ n ∧ a + D = b ∧ D ∣ a ∧ u = .int .i64 (a : Int) ∧ v = .int .i64 (b : Int) ∧ Trow wr g n (fun k => F (τ k)) ∧ (∀ c, D ∣ c → c < a → Ok (fun k => (F k).w) n τ c (c + D)) ∧ (∀ c, B ∣ c → a ≤ c → Ok (fun k => (F k).w) n τ c (c + B)) ∧ Shuf 0 n id τ ∧ Fr [g] w wr) (fun u _ _ => n - (intOf u).toNat)
          case atStart =>
            obtain ⟨hT, hok, hsh, hf, hD⟩ := HS.out
            exact ⟨0, D, ρ, by omega, by omega, ⟨0, rfl⟩, rfl, rfl, hT, fun c _ h => by omega, fun c h _ => hok c h, hsh, hf⟩
          case round =>
            obtain ⟨a, b, τ, han, hab, hda, rfl, rfl, hT, hk1, hk2, hsh, hf⟩ := hrel
            obtain ⟨m, hm⟩ : ∃ m, a + B = m := ⟨_, rfl⟩
            have em : (a : Int) + (B : Int) = (m : Int) := by omega
            have hD2 := HS.out.2.2.2.2
            have hBa : B ∣ a := Nat.dvd_trans ⟨2, by omega⟩ hda
            have hBm : B ∣ m := by rw [← hm]; exact Nat.dvd_add hBa (Nat.dvd_refl _)
            have hka := hk2 a hBa (Nat.le_refl _)
            have hkm := hk2 m hBm (by omega)
            rw [hm] at hka
            rw [show m + B = b by omega] at hkm
            have hmn : (m : Int) ≤ 5000 := by omega
            have hbn : (b : Int) ≤ 5000 := by omega
            by_cases hlt : b ≤ n
            · have hli : (b : Int) ≤ (n : Int) := by omega
              obtain ⟨b2, hb2⟩ : ∃ b2, b + D = b2 := ⟨_, rfl⟩
              have eb2 : (b : Int) + (D : Int) = (b2 : Int) := by omega
              have htwo := hka.two hkm (by omega) (by omega)
              rw [Nat.min_eq_left hlt] at htwo
              have HC := Lib.hid (merge_ok (b - a) q H.out.2.1 g n c a m b F τ wr hT HN.out (by omega) (by omega) hlt H.out.2.2 htwo (Nat.le_refl _))
              have HK := Lib.hid (And.intro hk1 (And.intro hk2 (And.intro hsh (And.intro hf (And.intro hda (And.intro hka (And.intro hkm (And.intro hab (And.intro hm hb2)))))))))
              clear hT hk1 hk2 hsh hf hda hka hkm htwo hBa hBm hab hm hb2 hD2
              go_wp2_with fail
              refine HC.out.mono ?_
              rintro e1 w1 ⟨rfl, hf1, hT1⟩
              have H1 := Lib.hid (And.intro hT1 hf1)
              clear hT1 hf1
              go_wp2_with fail
              go_roundw
              case rel =>
                obtain ⟨⟨α, t1, t2, t3⟩, hf1⟩ := H1.out
                obtain ⟨hk1, hk2, hsh, hf, hda, hka, hkm, hab, hm, hb2⟩ := HK.out
                have hdb : D ∣ b := by rw [← hab]; exact Nat.dvd_add hda (Nat.dvd_refl _)
                refine ⟨b, b2, α, hlt, hb2, hdb, rfl, rfl, t1, fun c h1 h2 => ?_, fun c h1 h2 => ?_, hsh.trans (t2.mono (by omega) hlt), hf.trans hf1⟩
                · by_cases hca : c < a
                  · exact (hk1 c h1 hca).keep t2 (.inl (dvd_step h1 hda hca))
                  · have hce : c = a := by
                      have := fun h => dvd_step hda h1 h
                      omega
                    rw [hce, hab]
                    rw [← Nat.min_eq_left hlt] at t2 t3
                    exact hka.merged hkm (by omega) (by omega) t2 t3
                · exact (hk2 c h1 (by omega)).keep t2 (.inr h2)
              case measure => simp [intOf]; have := HK.out.2.2.2.2.2.2.2.1; omega
            · have hli : (n : Int) < (b : Int) := by omega
              by_cases hmn2 : m < n
              · have hmn' : (m : Int) < (n : Int) := by omega
                have htwo := hka.two hkm hmn2 (by omega)
                rw [Nat.min_eq_right (by omega)] at htwo
                have HC := Lib.hid (merge_ok (n - a) q H.out.2.1 g n c a m n F τ wr hT HN.out (by omega) hmn2 (Nat.le_refl _) H.out.2.2 htwo (Nat.le_refl _))
                have HK := Lib.hid (And.intro hk1 (And.intro hk2 (And.intro hsh (And.intro hf (And.intro hda (And.intro hka (And.intro hkm (And.intro hab (And.intro hm (And.intro hlt hD2))))))))))
                clear hT hk1 hk2 hsh hf hda hka hkm htwo hBa hBm hab hm hlt hD2
                go_wp2_with fail
                refine HC.out.mono ?_
                rintro e1 w1 ⟨rfl, hf1, hT1⟩
                have H2 := Lib.hid (And.intro hT1 hf1)
                clear hT1 hf1
                go_wp2_with fail
                go_roundw
                case rel =>
                  obtain ⟨⟨α, t1, t2, t3⟩, hf1⟩ := H2.out
                  obtain ⟨hk1, hk2, hsh, hf, hda, hka, hkm, hab, hm, hlt, hD2⟩ := HK.out
                  refine ⟨D, α, by omega, by omega, rfl, t1, fun c h1 => ?_, hsh.trans (t2.mono (by omega) (Nat.le_refl _)), hf.trans hf1⟩
                  by_cases hca : c < a
                  · exact (hk1 c h1 hca).keep t2 (.inl (dvd_step h1 hda hca))
                  · by_cases hce : c = a
                    · rw [hce, hab]
                      rw [← Nat.min_eq_right (show n ≤ b by omega)] at t2 t3
                      exact hka.merged hkm (by omega) (by omega) t2 t3
                    · have := dvd_step hda h1 (by omega)
                      exact Ok.far (by omega)
                case measure => simp [intOf]; have := HK.out.2.2.2.2.2.2.2.2.2.2; omega
              · have hmn' : (n : Int) ≤ (m : Int) := by omega
                have HK := Lib.hid (And.intro hT (And.intro hk1 (And.intro hsh (And.intro hf (And.intro hda (And.intro hka (And.intro hab (And.intro hm (And.intro hlt hD2)))))))))
                clear hT hk1 hk2 hsh hf hda hka hkm hBa hBm hab hm hlt hD2
                go_wp2_with fail
                go_roundw
                case rel =>
                  obtain ⟨hT, hk1, hsh, hf, hda, hka, hab, hm, hlt, hD2⟩ := HK.out
                  refine ⟨D, τ, by omega, by omega, rfl, hT, fun c h1 => ?_, hsh, hf⟩
                  by_cases hca : c < a
                  · exact hk1 c h1 hca
                  · by_cases hce : c = a
                    · rw [hce, hab]
                      exact hka.wide (by omega) (by omega)
                    · have := dvd_step hda h1 (by omega)
                      exact Ok.far (by omega)
                case measure => simp [intOf]; have := HK.out.2.2.2.2.2.2.2.2.2; omega
        · have hBn' : (n : Int) ≤ (B : Int) := by omega
          have hso := (hok 0 ⟨0, by simp⟩).1
          rw [Nat.min_eq_right (by omega)] at hso
          have HS := Lib.hid (And.intro hT (And.intro hsh (And.intro hso hf)))
          clear hT hok hsh hf hso
          go_wp2_with fail
          refine bodyPost_end (v := .tuple #[]) (by simp [results, Tryz.results99, go_sem]) rfl ?_
          exact ⟨rfl, HS.out.2.2.2, ρ, HS.out.1, HS.out.2.1, HS.out.2.2.1⟩
/-- Things in order. -/
theorem sort_any (q : FuncId) (hq : CmpOk q) (g n c : Nat) (F : Nat → Th) (w : World) (h : Trow w g n F) (hn : n ≤ 1000) (hW : ∀ k, (F k).w ≤ 1000000000000000) :
    Calls Tryz.prog 85 #[.slice (some ⟨g, 0, none⟩) n c, .func (.func q) #[] #[]] w fun e w' => e = .returned (.tuple #[]) ∧ Fr [g] w w' ∧ ∃ τ, Trow w' g n (fun k => F (τ k)) ∧ Shuf 0 n id τ ∧ SortedS (fun k => (F k).w) τ 0 n := by
  have HC := Lib.hid (stable_any q hq g n c F w h hn hW)
  clear h hq hW
  go_enter Tryz.func85, Tryz.ntmps85
  go_wp2_with fail
  refine HC.out.mono ?_
  rintro e1 w1 ⟨rfl, hf1, hT1⟩
  have H1 := Lib.hid (And.intro hT1 hf1)
  clear hT1 hf1
  go_wp2_with fail
  refine bodyPost_end (v := .tuple #[]) (by simp [results, Tryz.results85, go_sem]) rfl ?_
  exact ⟨rfl, H1.out.2, H1.out.1⟩
end Go.Proofs.YtciejmlhdmjajaaGreat
namespace Go.Proofs.YtciejmlhdmjajaaGreat
open Go.RowKit
set_option linter.unusedVariables false
set_option linter.unusedSimpArgs false

/-- A whole number's cell, of an unsigned kind, of any kind. -/
def Un (k : IntKind) (n : Nat) : List Value := [.int k (n : Int)]
def Zn (k : IntKind) (n : Int) : List Value := [.int k n]
open Go.ChangeShapes Go.WideShapes Go.Deep in
theorem open_zs {H : Type} {henc : TypeId × Value → H} {P : Program} {w : World} {t e : TypeId} {k : IntKind} {v : Value} {d : DataW H} {ps : List MemPlace} {b0 : Nat} {r : Reach}
    (ht : P.underlying t = some (.slice e)) (he : P.underlying e = some (.int k)) (hC : P.cellsOf e = 1) (hval : Value.okWide P w r b0 t v) (hd : DataW.Trod henc P w 0 (fun _ => true) true t v d ps) :
    ∃ a0 cap, ∃ xs : List Int, v = .slice a0 xs.length cap ∧ xs.length ≤ maxLen ∧ SlOf (Zn k) 1 w a0 xs ∧ ∀ x, x ∈ xs → (Lit.int k x).wf = true := by
  obtain ⟨a0, len, cap, rfl⟩ := okWide_slice ht hval
  obtain ⟨fuel, hf⟩ := hd
  rcases open_ints ht he hC hf with ⟨hcs, hx⟩ | ⟨a, len', cap', zs, hcs, _, hl, hm, hz, hx, hi, hw⟩
  · simp [Value.cells] at hcs
    obtain ⟨rfl, rfl, rfl⟩ := hcs
    exact ⟨none, 0, [], rfl, by simp [maxLen], fun h => absurd rfl h, fun x hx => by cases hx⟩
  · simp [Value.cells] at hcs
    obtain ⟨rfl, rfl, rfl⟩ := hcs
    have hzl : zs.length = cap := by simpa using hz
    have htl : (zs.take len).length = len := by rw [List.length_take]; omega
    refine ⟨some a, cap, zs.take len, by rw [htl], by rw [htl]; omega, fun hne => ?_, fun x hx => hw x (List.mem_of_mem_take hx)⟩
    have hpos : 0 < len := by
      rcases Nat.eq_zero_or_pos len with h | h
      · exact absurd (by rw [h]; rfl) hne
      · exact h
    have h0 := hi 0 (by omega)
    have hlt := block_lt_of_cell h0
    obtain ⟨b, o, sp⟩ := a
    have hsp : sp = none := by
      cases sp with
      | none => rfl
      | some s =>
        simp [Addr.add, World.cell?] at h0
        split at h0 <;> simp_all
    subst hsp
    refine ⟨b, o, rfl, by simpa [Addr.add] using hlt, fun i x hi' j u hu => ?_⟩
    have hj : j = 0 := by
      have := (List.getElem?_eq_some_iff.1 hu).1
      simp [Zn] at this
      exact this
    subst hj
    have hil := (List.getElem?_eq_some_iff.1 hi').1
    rw [htl] at hil
    have := hi i (by omega)
    rw [add_none] at this
    simp [Zn] at hu
    subst hu
    rw [Nat.mul_one, Nat.add_zero, this]
    rw [List.getElem?_take_of_lt hil] at hi'
    simp [List.getD, hi']
theorem nat_row {k : IntKind} {w : World} {a0 : Option Addr} {xs : List Int} (h : SlOf (Zn k) 1 w a0 xs) (hx : ∀ x ∈ xs, 0 ≤ x) : SlOf (Un k) 1 w a0 (xs.map Int.toNat) := fun hne => by
  obtain ⟨b, o, h1, h2, h3⟩ := h (by intro e; rw [e] at hne; exact hne rfl)
  refine ⟨b, o, h1, h2, fun i x hi j u hu => ?_⟩
  rw [List.getElem?_map, Option.map_eq_some_iff] at hi
  obtain ⟨y, hy, rfl⟩ := hi
  refine h3 i y hy j u ?_
  have := hx y (List.mem_of_getElem? hy)
  unfold Un at hu
  rw [show ((y.toNat : Nat) : Int) = y by omega] at hu
  exact hu
set_option maxRecDepth 100000 in
open Go.ChangeShapes Go.WideShapes in
theorem open_u8s {H : Type} {henc : TypeId × Value → H} {w : World} {v : Value} {d : DataW H} {ps : List MemPlace} {b0 : Nat} {r : Reach}
    (hval : Value.okWide Tryz.prog w r b0 36 v) (hd : DataW.Trod henc Tryz.prog w 0 (fun _ => true) true 36 v d ps) :
    ∃ a0 cap, ∃ xs : List Nat, v = .slice a0 xs.length cap ∧ xs.length ≤ maxLen ∧ SlOf (Un .u8) 1 w a0 xs ∧ ∀ x, x ∈ xs → x < 256 := by
  obtain ⟨a0, cap, xs, h1, h2, h3, h4⟩ := open_zs Tryz.underlying36 Tryz.underlying5 (by kernel_rfl) hval hd
  have hb : ∀ x ∈ xs, 0 ≤ x ∧ x ≤ 255 := fun x hx => by have := h4 x hx; simp [Lit.wf, IntKind.min, IntKind.max, IntKind.signed, IntKind.bits] at this; omega
  refine ⟨a0, cap, xs.map Int.toNat, by rw [List.length_map]; exact h1, by rw [List.length_map]; exact h2, nat_row h3 (fun x hx => (hb x hx).1), fun x hx => ?_⟩
  obtain ⟨y, hy, rfl⟩ := List.mem_map.1 hx
  have := hb y hy
  omega
set_option maxRecDepth 100000 in
open Go.ChangeShapes Go.WideShapes in
set_option maxRecDepth 100000 in
open Go.ChangeShapes Go.WideShapes in
set_option maxRecDepth 100000 in
open Go.ChangeShapes Go.WideShapes in
theorem open_i64s {H : Type} {henc : TypeId × Value → H} {w : World} {v : Value} {d : DataW H} {ps : List MemPlace} {b0 : Nat} {r : Reach}
    (hval : Value.okWide Tryz.prog w r b0 81 v) (hd : DataW.Trod henc Tryz.prog w 0 (fun _ => true) true 81 v d ps) :
    ∃ a0 cap, ∃ xs : List Int, v = .slice a0 xs.length cap ∧ xs.length ≤ maxLen ∧ SlOf (Zn .i64) 1 w a0 xs ∧ ∀ x, x ∈ xs → -9223372036854775808 ≤ x ∧ x ≤ 9223372036854775807 := by
  obtain ⟨a0, cap, xs, h1, h2, h3, h4⟩ := open_zs Tryz.underlying81 Tryz.underlying3 (by kernel_rfl) hval hd
  exact ⟨a0, cap, xs, h1, h2, h3, fun x hx => by have := h4 x hx; simp [Lit.wf, IntKind.min, IntKind.max, IntKind.signed, IntKind.bits] at this; omega⟩
end Go.Proofs.YtciejmlhdmjajaaGreat
namespace Go.Proofs.YtciejmlhdmjajaaGreat
open Go.RowKit
set_option linter.unusedVariables false
set_option linter.unusedSimpArgs false

theorem elemT : Elem Tryz.prog 113 119 3 24 := by
  refine ⟨Tryz.underlying113, ?_⟩
  obtain ⟨i0, hi, hz0, hz1, hz2⟩ := info_parts (show (Tryz.prog.info? 119).map (fun i => (i.zero, i.size, i.bytes)) = some (some (.agg #[.int .i64 0, .int .i64 0, .pointer none]), 3, 24) by kernel_rfl)
  exact ⟨i0, _, hi, hz0, hz1, hz2, rfl, by decide⟩
/-- The symbols that count, as they stand: the first of them has number s. -/
def leafL : Nat → List Int → List Th
  | _, [] => []
  | s, c :: xs => if 0 < c then ⟨c.toNat, s, none⟩ :: leafL (s + 1) xs else leafL (s + 1) xs
theorem leafL_snoc (c : Int) : ∀ (xs : List Int) (s : Nat), leafL s (xs ++ [c]) = leafL s xs ++ if 0 < c then [⟨c.toNat, s + xs.length, none⟩] else []
  | [], s => by simp [leafL]
  | x :: xs, s => by
    have ih := leafL_snoc c xs (s + 1)
    rw [List.cons_append, leafL, leafL, ih, List.length_cons, show s + 1 + xs.length = s + (xs.length + 1) by omega]
    by_cases h : 0 < x
    · rw [if_pos h, if_pos h, List.cons_append]
    · rw [if_neg h, if_neg h]
theorem leafL_len : ∀ (xs : List Int) (s : Nat), (leafL s xs).length ≤ xs.length
  | [], s => by simp [leafL]
  | x :: xs, s => by
    have ih := leafL_len xs (s + 1)
    rw [leafL]
    split <;> simp <;> omega
theorem leafL_w : ∀ (xs : List Int) (s : Nat) (h : ∀ x ∈ xs, x ≤ 1073741824), ∀ t ∈ leafL s xs, t.w ≤ 1073741824
  | [], s, _, t, ht => by simp [leafL] at ht
  | x :: xs, s, h, t, ht => by
    have ih := leafL_w xs (s + 1) (fun y hy => h y (by simp [hy])) t
    have hx := h x (by simp)
    rw [leafL] at ht
    split at ht
    · rcases List.mem_cons.1 ht with rfl | h1
      · simp only; omega
      · exact ih h1
    · exact ih ht
/-- A count that may not be. -/
def badC (xs : List Int) : Prop := 320 < xs.length ∨ ∃ x ∈ xs, x < 0 ∨ 1073741824 < x
def th0 : Th := ⟨0, 0, none⟩
def rowF (l : List Th) (k : Nat) : Th := l.getD k th0
theorem rowF_all (l : List Th) : (List.range l.length).flatMap (fun k => Te (rowF l k)) = l.flatMap Te := by
  have : l = (List.range l.length).map (rowF l) := by
    apply List.ext_getElem?
    intro i
    by_cases hi : i < l.length
    · simp [hi, rowF]
    · rw [List.getElem?_eq_none (by omega), List.getElem?_eq_none (by simp; omega)]
  conv => rhs; rw [this]
  rw [List.flatMap_map]
theorem rowF_w (l : List Th) (B : Nat) (h : ∀ t ∈ l, t.w ≤ B) (k : Nat) : (rowF l k).w ≤ B := by
  unfold rowF
  rw [List.getD_eq_getElem?_getD]
  cases hk : l[k]? with
  | none => simp [th0]
  | some t => exact h t (List.mem_of_getElem? hk)
/-- An own row of things: none, or a block that begins with them. -/
theorem trow_own {w : World} {B : Nat} {v : Value} {n : Nat} {l : List Th} (h : w.ownsRow B 119 3 v n (l.flatMap Te)) (hn : n = l.length) : (v = .slice none 0 0 ∧ l = []) ∨ ∃ g cap, v = .slice (some ⟨g, 0, none⟩) l.length cap ∧ B ≤ g ∧ l.length ≤ cap ∧ Trow w g l.length (rowF l) := by
  subst hn
  rcases h.2 with ⟨rfl, h0⟩ | ⟨g, cap, cur, rfl, hb, hg, hc, hm, hs, ht⟩
  · exact .inl ⟨rfl, List.eq_nil_of_length_eq_zero h0⟩
  · refine .inr ⟨g, cap, rfl, hb, hc, cur.toList.drop (l.length * 3), ?_⟩
    rw [hg, rowF_all, ← ht, List.take_append_drop]

set_option maxRecDepth 2000000 in
set_option maxHeartbeats 3200000 in
theorem sort_nil (q : FuncId) (w : World) : Calls Tryz.prog 85 #[.slice none 0 0, .func (.func q) #[] #[]] w fun e w' => e = .returned (.tuple #[]) ∧ w' = w := by
  have H1 := Lib.hid (show Calls Tryz.prog 104 #[.slice none 0 0, .int .i64 0, .int .i64 0, .func (.func q) #[] #[]] w fun e w' => e = .returned (.tuple #[]) ∧ w' = w by
    go_enter Tryz.func104, Tryz.ntmps104
    go_wp2_with fail
    go_loopw [8] (fun v wr => v = .int .i64 1 ∧ wr = w) (fun _ _ => 0)
    case atStart => exact ⟨rfl, rfl⟩
    case round =>
      obtain ⟨rfl, hw⟩ := hrel
      replace hw := hw.symm
      subst hw
      go_wp2_with fail
      go_end0
      exact ⟨rfl, rfl⟩)
  have H2 := Lib.hid (show Calls Tryz.prog 99 #[.slice none 0 0, .int .i64 0, .func (.func q) #[] #[]] w fun e w' => e = .returned (.tuple #[]) ∧ w' = w by
    go_enter Tryz.func99, Tryz.ntmps99
    go_wp2_with fail
    go_loopw [7, 8] (fun u v wr => u = .int .i64 0 ∧ v = .int .i64 20 ∧ wr = w) (fun _ _ _ => 0)
    case atStart => exact ⟨rfl, rfl, rfl⟩
    case round =>
      obtain ⟨rfl, rfl, hw⟩ := hrel
      replace hw := hw.symm
      subst hw
      go_wp2_with fail
      refine H1.out.mono ?_
      rintro e w1 ⟨rfl, hw⟩
      replace hw := hw.symm
      subst hw
      go_wp2_with fail
      go_loopw [6, 7, 8] (fun x u v wr => x = .int .i64 20 ∧ wr = w) (fun _ _ _ _ => 0)
      case atStart => exact ⟨rfl, rfl⟩
      case round =>
        obtain ⟨rfl, hw⟩ := hrel
        replace hw := hw.symm
        subst hw
        go_wp2_with fail
        go_end0
        exact ⟨rfl, rfl⟩)
  go_enter Tryz.func85, Tryz.ntmps85
  go_wp2_with fail
  refine H2.out.mono ?_
  rintro e w1 ⟨rfl, hw⟩
  replace hw := hw.symm
  subst hw
  go_wp2_with fail
  go_end0
  exact ⟨rfl, rfl⟩

/-- A row in order: of what things, where it lies. -/
def InOrder (w : World) (v : Value) (B : Nat) (l : List Th) : Prop := (v = .slice none 0 0 ∧ l = []) ∨ ∃ g cap τ, v = .slice (some ⟨g, 0, none⟩) l.length cap ∧ B ≤ g ∧ l.length ≤ cap ∧ Trow w g l.length (fun k => rowF l (τ k)) ∧ Shuf 0 l.length id τ ∧ SortedS (fun k => (rowF l k).w) τ 0 l.length

set_option maxRecDepth 2000000 in
set_option maxHeartbeats 6400000 in
theorem leaves_any (a : Option Addr) (c : Nat) (l : List Int) (w : World) (hs : SlOf (Zn .i64) 1 w a l) (hl : l.length ≤ 9223372036854775807) :
    Calls Tryz.prog 59 #[.slice a l.length c] w fun e w' => Fr [] w w' ∧ (badC l ∧ e = .returned (.tuple #[.slice none 0 0, .bool false]) ∨ ¬ badC l ∧ ∃ v, e = .returned (.tuple #[v, .bool true]) ∧ InOrder w' v w.heap.size (leafL 0 l)) := by
  have HS := Lib.hid hs
  have hl1 : (l.length : Int) ≤ 9223372036854775807 := by omega
  clear hs hl
  by_cases hbig : 320 < l.length
  · have h1 : (320 : Int) < (l.length : Int) := by omega
    have HB := Lib.hid hbig
    clear hbig
    go_enter Tryz.func59, Tryz.ntmps59
    go_wp2_with fail
    go_ret2
    exact ⟨Fr.refl _ _, .inl ⟨.inl HB.out, rfl⟩⟩
  · have h1 : (l.length : Int) ≤ 320 := by omega
    have HB := Lib.hid hbig
    clear hbig
    go_enter Tryz.func59, Tryz.ntmps59
    go_wp2_with fail
    go_loopw [2, 4, 5, 11] (fun v _ _ i wr => ∃ (j : Nat) (m : Nat) (vv : Value), v = vv ∧ j ≤ l.length ∧ i = .int .i64 j ∧ m = (leafL 0 (l.take j)).length ∧ (∀ x ∈ l.take j, 0 ≤ x ∧ x ≤ 1073741824) ∧ wr.ownsRow w.heap.size 119 3 v m ((leafL 0 (l.take j)).flatMap Te) ∧ Below w.heap.size w wr) (fun _ _ _ i _ => l.length - (intOf i).toNat)
    case atStart => exact ⟨0, 0, _, rfl, Nat.zero_le _, rfl, rfl, fun x hx => by simp at hx, World.ownsRow_nil _ _ _ _, Below.refl _ _⟩
    case round =>
      obtain ⟨j, m, vv, rfl, hj, rfl, hm, hok, hown, hbel⟩ := hrel
      by_cases hjl : j < l.length
      · obtain ⟨x, hx⟩ : ∃ x, l[j]? = some x := ⟨l[j], List.getElem?_eq_getElem hjl⟩
        obtain ⟨b, o, rfl, hbl, hcell⟩ := (HS.out.below hbel) (by intro h; rw [h] at hx; simp at hx)
        have c0 := hcell j x hx 0 (.int .i64 x) rfl
        rw [Nat.mul_one, Nat.add_zero] at c0
        have hji : (j : Int) < (l.length : Int) := by omega
        have hj0 : 0 ≤ (j : Int) := by omega
        have HX := Lib.hid (And.intro hx (And.intro hok hm))
        by_cases hx0 : x < 0
        · have HN := Lib.hid (show badC l from .inr ⟨x, List.mem_of_getElem? hx, .inl hx0⟩)
          have HW := Lib.hid hbel
          clear hcell hx hok hm hown hbel hbl
          go_wp2_with fail
          go_ret2
          exact ⟨Fr.of_below HW.out, .inl ⟨HN.out, rfl⟩⟩
        · by_cases hx1 : 1073741824 < x
          · have HN := Lib.hid (show badC l from .inr ⟨x, List.mem_of_getElem? hx, .inr hx1⟩)
            have HW := Lib.hid hbel
            have hx2 : 0 ≤ x := by omega
            clear hcell hx hok hm hown hbel hbl hx0
            go_wp2_with fail
            go_ret2
            exact ⟨Fr.of_below HW.out, .inl ⟨HN.out, rfl⟩⟩
          · have hx2 : 0 ≤ x := by omega
            have hx3 : x ≤ 1073741824 := by omega
            have hlen := leafL_len (l.take j) 0
            rw [← hm, List.length_take] at hlen
            have hml : m ≤ 320 := by omega
            have hW := Lib.hid hbel
            have hS := Lib.hid hown
            have hsz := hbel.size
            by_cases hx4 : 0 < x
            · clear hcell hx hok hm hown hbel hbl hx0 hx1 hlen
              go_wp2_with (at_builtin; go_must (refine wpList_push w.heap.size w wr rfl (.tmp 24) (.tmp 28) 113 rfl 119 3 24 elemT u2 m _ rfl hS hW hsz #[.int .i64 x, .int .i64 (j : Int), .pointer none] 1 1 rfl rfl rfl (by omega) (by omega) (by omega) ?_); intro g cap w5 HQ)
              go_roundw
              case rel =>
                obtain ⟨hx, hok, hm⟩ := HX.out
                refine ⟨j + 1, m + 1, _, rfl, by omega, by go_num, ?_, ?_, ?_, HQ.out.below⟩
                · rw [List.take_add_one, hx, Option.toList_some, leafL_snoc, if_pos hx4, List.length_append, ← hm]; rfl
                · rw [List.take_add_one, hx]
                  intro y hy
                  rcases List.mem_append.1 hy with hy | hy
                  · exact hok y hy
                  · simp at hy; omega
                · rw [List.take_add_one, hx, Option.toList_some, leafL_snoc, if_pos hx4, List.flatMap_append]
                  have := HQ.out.own
                  have e1 : [Th.mk x.toNat (0 + (l.take j).length) none].flatMap Te = [.int .i64 x, .int .i64 (j : Int), .pointer none] := by
                    simp [Te, List.length_take]; omega
                  rw [e1]
                  exact this
              case measure => simp [intOf]; omega
            · have hx5 : x ≤ 0 := by omega
              clear hcell hx hok hm hown hbel hbl hx0 hx1 hlen
              go_wp2_with fail
              go_roundw
              case rel =>
                obtain ⟨hx, hok, hm⟩ := HX.out
                refine ⟨j + 1, m, _, rfl, by omega, by go_num, ?_, ?_, ?_, hW.out⟩
                · rw [List.take_add_one, hx, Option.toList_some, leafL_snoc, if_neg hx4, List.append_nil, ← hm]
                · rw [List.take_add_one, hx]
                  intro y hy
                  rcases List.mem_append.1 hy with hy | hy
                  · exact hok y hy
                  · simp at hy; omega
                · rw [List.take_add_one, hx, Option.toList_some, leafL_snoc, if_neg hx4, List.append_nil]
                  exact hS.out
              case measure => simp [intOf]; omega
      · have hje : j = l.length := by omega
        subst hje
        rw [List.take_length] at hm hok hown
        have hgood : ¬ badC l := by
          rintro (h | ⟨x, hx, h⟩)
          · exact HB.out h
          · have := hok x hx; omega
        have hle := leafL_len l 0
        rcases trow_own hown hm with ⟨rfl, hnil⟩ | ⟨g, cap, rfl, hg, hcap, hT⟩
        · have HC := Lib.hid (sort_nil 86 wr)
          have HK := Lib.hid (And.intro hgood (And.intro hnil hbel))
          clear hgood hnil hbel hm hok hown hle
          go_wp2_with fail
          refine HC.out.mono ?_
          rintro e w1 ⟨rfl, hw⟩
          replace hw := hw.symm
          subst hw
          go_wp2_with fail
          go_ret2
          exact ⟨Fr.of_below HK.out.2.2, .inr ⟨HK.out.1, _, rfl, .inl ⟨rfl, HK.out.2.1⟩⟩⟩
        · have HC := Lib.hid (sort_any 86 cmp_leaves g _ cap (rowF (leafL 0 l)) wr hT (by omega) (rowF_w _ _ (fun t ht => Nat.le_trans (leafL_w l 0 (fun x hx => (hok x hx).2) t ht) (by omega))))
          have HK := Lib.hid (And.intro hgood (And.intro (And.intro hg hcap) hbel))
          clear hgood hbel hm hok hown hle hT hg hcap
          go_wp2_with fail
          refine HC.out.mono ?_
          rintro e w1 ⟨rfl, hf1, hT1⟩
          have H1 := Lib.hid (And.intro hT1 hf1)
          clear hT1 hf1
          go_wp2_with fail
          go_ret2
          obtain ⟨⟨τ, t1, t2, t3⟩, hf1⟩ := H1.out
          exact ⟨Fr.of_below (hf1.out HK.out.2.2 (by simpa using HK.out.2.1.1)), .inr ⟨HK.out.1, _, rfl, .inr ⟨g, cap, τ, rfl, HK.out.2.1.1, HK.out.2.1.2, t1, t2, t3⟩⟩⟩
end Go.Proofs.YtciejmlhdmjajaaGreat
namespace Go.Proofs.YtciejmlhdmjajaaGreat
open Go.RowKit
set_option linter.unusedVariables false
set_option linter.unusedSimpArgs false

theorem Trow.news {w : World} {g n : Nat} {F : Nat → Th} (h : Trow w g n F) : ∀ j u, ((List.range n).flatMap fun k => Te (F k))[j]? = some u → w.cell? ((⟨g, 0, none⟩ : Addr).add j) = some u := fun j u hu => by
  have hl : ((List.range n).flatMap (fun i => Te (F i))).length = 3 * n := by rw [flatMap_three _ (fun i => te_len (F i)), List.length_range]
  have hj : j < 3 * n := by rw [← hl]; exact (List.getElem?_eq_some_iff.1 hu).1
  rw [add_none, Nat.zero_add]
  obtain ⟨rest, h⟩ := h
  rw [cell_of h]
  simp only [List.getElem?_toArray]
  rw [List.getElem?_append_left (by rw [hl]; exact hj)]
  exact hu
theorem flat_one (F : Nat → Th) (l : List Nat) : ∀ u ∈ l.flatMap (fun k => Te (F k)), u.oneCell' = true := by
  intro u hu
  obtain ⟨k, _, hk⟩ := List.mem_flatMap.1 hu
  simp [Te] at hk
  rcases hk with rfl | rfl | rfl <;> rfl
set_option maxHeartbeats 800000 in
/-- A row of things is put behind an own row. -/
theorem wpList_cat (B : Nat) (W w0 : World) {ops : Array Oper} {rest : List Oper} {o : Oper} {a : Act} {Q : Exit → Act → World → Prop} (hgd : o.guard = none) (s x : Operand)
    (ho : o.op = .call { callee := .builtin .append, args := #[s, x], argTypes := #[113, 113] })
    (v : Value) (n : Nat) (xs : List Value) (hs : a.eval s = v) (hown : Hid (w0.ownsRow B 119 3 v n xs)) (hB : Hid (Below B W w0)) (hBs : B ≤ w0.heap.size)
    (g m c : Nat) (F : Nat → Th) (hx : a.eval x = .slice (some ⟨g, 0, none⟩) m c) (hT : Hid (Trow w0 g m F)) (hm : 0 < m) (hnm : n + m ≤ 1000)
    (h : ∀ g' cap w', Hid (w'.ownsRow B 119 3 (.slice (some ⟨g', 0, none⟩) (n + m) cap) (n + m) (xs ++ (List.range m).flatMap fun k => Te (F k)) ∧ Below B W w') → wpList Tryz.prog ops Q rest (a.put o.dst (.slice (some ⟨g', 0, none⟩) (n + m) cap)) w') :
    wpList Tryz.prog ops Q (o :: rest) a w0 := by
  obtain ⟨ht, i, z, hi, hz, hsz, hby, hzs, hpos⟩ := elemT
  refine wpList_append_lies _ hgd s x _ ho B _ i z 3 24 ht hi hz hsz hby hzs hpos v n xs hs hown.out ⟨g, 0, none⟩ m c ((List.range m).flatMap fun k => Te (F k)) hx (by rw [flatMap_three _ (fun i => te_len (F i)), List.length_range, Nat.mul_comm]) hT.out.news (flat_one F _) hm (by unfold maxLen; omega) (by omega) hBs _ rfl ?_
  intro g' cap w' k1 k2 k3 k4
  exact h g' cap w' (Lib.hid ⟨k1, below_grown hB.out k2 hBs (fun g'' hg'' => (hown.out.lt g'' hg'').1)⟩)

set_option maxRecDepth 2000000 in
set_option maxHeartbeats 3200000 in
theorem clone_any (g n c : Nat) (F : Nat → Th) (w : World) (h : Trow w g n F) (h0 : 0 < n) (hn : n ≤ 1000) :
    Calls Tryz.prog 89 #[.slice (some ⟨g, 0, none⟩) n c] w fun e w' => ∃ v, e = .returned v ∧ w'.ownsRow w.heap.size 119 3 v n ((List.range n).flatMap fun k => Te (F k)) ∧ Below w.heap.size w w' := by
  have hA := new_of w (.cells #[] 119)
  have HT := Lib.hid (h.to (Fr.alloc [] w (.cells #[] 119)) (by simp))
  have HO : Hid ((w.alloc (.cells #[] 119)).ownsRow w.heap.size 119 3 (.slice (some ⟨w.heap.size, 0, none⟩) 0 0) 0 []) := Lib.hid ⟨rfl, .inr ⟨w.heap.size, 0, #[], rfl, Nat.le_refl _, hA, Nat.le_refl _, by unfold maxLen; omega, rfl, rfl⟩⟩
  have HB := Lib.hid (Fr.alloc [] w (.cells #[] 119)).below
  have hsz := (Fr.alloc [] w (.cells #[] 119)).size
  clear h hA
  have hnil : (binOp BinOp.eql 113 (.slice (some ⟨g, 0, none⟩) n c) (.slice none 0 0)).run Tryz.prog w = .ok (.bool false) w := by kernel_rfl
  go_enter Tryz.func89, Tryz.ntmps89
  go_wp2_with (at_builtin; go_must (refine wpList_cat w.heap.size w (w.alloc (.cells #[] 119)) rfl (.tmp 5) (.tmp 6) rfl _ 0 [] rfl HO HB hsz g n c F rfl HT h0 (by omega) ?_); intro g' cap w' HQ)
  go_ret
  refine ⟨_, rfl, ?_, HQ.out.2⟩
  have := HQ.out.1
  rw [Nat.zero_add, List.nil_append] at this
  simpa using this
/-- Two rows, one behind the other. -/
def catF (n : Nat) (F G : Nat → Th) (k : Nat) : Th := if k < n then F k else G (k - n)
theorem cat_flat (n m : Nat) (F G : Nat → Th) : (List.range (n + m)).flatMap (fun k => Te (catF n F G k)) = (List.range n).flatMap (fun k => Te (F k)) ++ (List.range m).flatMap (fun k => Te (G k)) := by
  rw [List.range_add, List.flatMap_append, List.flatMap_map]
  congr 1
  · have : ∀ l : List Nat, (∀ j ∈ l, j < n) → l.flatMap (fun k => Te (catF n F G k)) = l.flatMap (fun k => Te (F k)) := by
      intro l
      induction l with
      | nil => intro _; rfl
      | cons x l ih => intro hl; rw [List.flatMap_cons, List.flatMap_cons, ih (fun j hj => hl j (by simp [hj]))]; unfold catF; rw [if_pos (hl x (by simp))]
    exact this _ fun j hj => List.mem_range.1 hj
  · congr 1
    funext k
    unfold catF
    rw [if_neg (by omega), show n + k - n = k by omega]
theorem trow_of_own {w : World} {B g n cap : Nat} {F : Nat → Th} (h : w.ownsRow B 119 3 (.slice (some ⟨g, 0, none⟩) n cap) n ((List.range n).flatMap fun k => Te (F k))) : B ≤ g ∧ n ≤ cap ∧ Trow w g n F := by
  rcases h.2 with ⟨h1, h0⟩ | ⟨g', cap', cur, he, hb, hg, hc, hm, hs, ht⟩
  · simp at h1
  · simp at he
    obtain ⟨rfl, rfl⟩ := he
    refine ⟨hb, hc, cur.toList.drop (n * 3), ?_⟩
    rw [hg, ← ht, List.take_append_drop]

set_option maxRecDepth 2000000 in
set_option maxHeartbeats 3200000 in
theorem mergeP_any (g n c g2 m c2 : Nat) (F G : Nat → Th) (w : World) (h : Trow w g n F) (h2 : Trow w g2 m G) (h0 : 0 < n) (hm0 : 0 < m) (hn : n + m ≤ 1000) (hF : ∀ k, (F k).w ≤ 1000000000000000) (hG : ∀ k, (G k).w ≤ 1000000000000000) :
    Calls Tryz.prog 61 #[.slice (some ⟨g, 0, none⟩) n c, .slice (some ⟨g2, 0, none⟩) m c2] w fun e w' => ∃ g' cap τ, e = .returned (.slice (some ⟨g', 0, none⟩) (n + m) cap) ∧ Fr [] w w' ∧ w.heap.size ≤ g' ∧ n + m ≤ cap ∧ Trow w' g' (n + m) (fun k => catF n F G (τ k)) ∧ Shuf 0 (n + m) id τ ∧ SortedS (fun k => (catF n F G k).w) τ 0 (n + m) := by
  have HC := Lib.hid (clone_any g n c F w h h0 (by omega))
  have H2 := Lib.hid h2
  have HW := Lib.hid (show ∀ k, (catF n F G k).w ≤ 1000000000000000 from fun k => by unfold catF; split <;> simp [hF, hG])
  clear h h2 hF hG
  go_enter Tryz.func61, Tryz.ntmps61
  go_wp2_with fail
  refine HC.out.mono ?_
  rintro e w1 ⟨v, rfl, hown, hbel⟩
  have hsz := hbel.size
  have HT := Lib.hid (H2.out.to (l := []) (Fr.of_below hbel) (by simp))
  have HB := Lib.hid hbel
  have HO := Lib.hid hown
  clear hown hbel
  go_wp2_with (at_builtin; go_must (refine wpList_cat w.heap.size w w1 rfl (.tmp 7) (.tmp 8) rfl v n _ rfl HO HB hsz g2 m c2 G rfl HT hm0 hn ?_); intro g' cap w' HQ)
  obtain ⟨hge, hcg, hTg⟩ := trow_of_own (F := catF n F G) (by rw [cat_flat]; exact HQ.out.1)
  have HS := Lib.hid (sort_any 90 cmp_merge g' (n + m) cap (catF n F G) w' hTg hn HW.out)
  have HG := Lib.hid (And.intro hge hcg)
  clear hge hTg hcg
  refine HS.out.mono ?_
  rintro e w2 ⟨rfl, hf2, hT2⟩
  have H1 := Lib.hid (And.intro hT2 hf2)
  clear hT2 hf2
  go_wp2_with fail
  go_ret
  obtain ⟨⟨τ, t1, t2, t3⟩, hf1⟩ := H1.out
  exact ⟨g', cap, τ, rfl, Fr.of_below (hf1.out HQ.out.2 (by simpa using HG.out.1)), HG.out.1, HG.out.2, t1, t2, t3⟩
end Go.Proofs.YtciejmlhdmjajaaGreat
namespace Go.Proofs.YtciejmlhdmjajaaGreat
open Go.RowKit
set_option linter.unusedVariables false
set_option linter.unusedSimpArgs false

/-- What a thing is made of. -/
inductive PT where
  | leaf (s : Nat)
  | node (a b : PT)
def occ : PT → Nat → Nat
  | .leaf s, k => if k = s then 1 else 0
  | .node a b, k => occ a k + occ b k
/-- A thing in memory, whose packages lie in blocks other than gl. -/
def Tree (w : World) (gl : Nat) : PT → Th → Prop
  | .leaf s, t => t.two = none ∧ t.s = s
  | .node a b, t => ∃ (g : Nat) (x y : Th), t.two = some ⟨g, 0, none⟩ ∧ g ≠ gl ∧ w.heap[g]? = some (.cells (Te x ++ Te y).toArray 120 (0, 0)) ∧ Tree w gl a x ∧ Tree w gl b y
theorem Tree.to {w w' : World} {gl : Nat} (f : Fr [gl] w w') : ∀ (p : PT) (t : Th), Tree w gl p t → Tree w' gl p t
  | .leaf s, t, h => h
  | .node a b, t, h => by
    obtain ⟨g, x, y, h1, h2, h3, h4, h5⟩ := h
    exact ⟨g, x, y, h1, h2, f.blk h3 (by simpa using h2), Tree.to f a x h4, Tree.to f b y h5⟩
/-- Where the boxes of packages stay, things are what they were. -/
theorem Tree.grow {w w' : World} {gl : Nat} (f : ∀ (g : Nat) (cs : Array Value), w.heap[g]? = some (.cells cs 120 (0, 0)) → w'.heap[g]? = some (.cells cs 120 (0, 0))) : ∀ (p : PT) (t : Th), Tree w gl p t → Tree w' gl p t
  | .leaf s, t, h => h
  | .node a b, t, h => by
    obtain ⟨g, x, y, h1, h2, h3, h4, h5⟩ := h
    exact ⟨g, x, y, h1, h2, f g _ h3, Tree.grow f a x h4, Tree.grow f b y h5⟩
theorem boxes_grown {w w' : World} {B : Nat} {v : Value} {n : Nat} {xs : List Value} (h : w.ownsRow B 119 3 v n xs) (hg : w.grownBy w' v.ownBlock) : ∀ (g : Nat) (cs : Array Value), w.heap[g]? = some (.cells cs 120 (0, 0)) → w'.heap[g]? = some (.cells cs 120 (0, 0)) := by
  intro g cs hc
  rw [hg.block g (lt_of hc) ?_, hc]
  intro he
  rcases h.2 with ⟨rfl, _⟩ | ⟨g', cap, cur, rfl, hb, hh, _⟩
  · simp [Value.ownBlock] at he
  · simp [Value.ownBlock] at he
    subst he
    rw [hc] at hh
    simp at hh
/-- The variables that meet uses: the lengths' slice, itself. -/
structure Meets (w : World) (b1 b2 gl nl cl : Nat) : Prop where
  h1 : w.heap[b1]? = some (.cells #[.slice (some ⟨gl, 0, none⟩) nl cl] 36 (0, 0))
  h2 : w.heap[b2]? = some (.cells #[.func (.func 62) #[] #[.pointer (some ⟨b1, 0, none⟩), .pointer (some ⟨b2, 0, none⟩)]] 122 (0, 0))
  n1 : b1 ≠ gl
  n2 : b2 ≠ gl
theorem Meets.to {w w' : World} {b1 b2 gl nl cl : Nat} (h : Meets w b1 b2 gl nl cl) (f : Fr [gl] w w') : Meets w' b1 b2 gl nl cl := ⟨f.blk h.h1 (by simpa using h.n1), f.blk h.h2 (by simpa using h.n2), h.n1, h.n2⟩

set_option maxRecDepth 2000000 in
set_option maxHeartbeats 3200000 in
theorem meet_leaf (b1 b2 gl nl cl s tw : Nat) (F : Nat → Nat) (w : World) (hM : Meets w b1 b2 gl nl cl) (hF : Nrow w gl 5 .u8 nl F) (hs : s < nl) (hn : nl ≤ 1000) (hb : F s ≤ 254) :
    Calls Tryz.prog 62 #[tv ⟨tw, s, none⟩, .pointer (some ⟨b1, 0, none⟩), .pointer (some ⟨b2, 0, none⟩)] w fun e w' => e = .returned (.tuple #[]) ∧ Nrow w' gl 5 .u8 nl (fun k => F k + if k = s then 1 else 0) ∧ Fr [gl] w w' := by
  have hA := Fr.alloc [] w (.cells (Te ⟨tw, s, none⟩).toArray 119)
  have hM1 := hM.to hA.nil
  have hF1 := hF.to hA (by simp)
  have c1 := cell_of hM1.h1 0
  have d0 := hF1.cell s hs
  have fz := free_of hF1 s
  have hset := hF1.set_ (G := fun k => F k + if k = s then 1 else 0) s (F s + 1) (fun j _ => by by_cases h : j = s <;> simp [h])
  obtain ⟨x, hx⟩ : ∃ x, F s = x := ⟨_, rfl⟩
  rw [hx] at d0 hset hb
  have hsn : (s : Int) < (nl : Int) := by omega
  have hni : (nl : Int) ≤ 1000 := by omega
  obtain ⟨y, hy⟩ : ∃ y, x + 1 = y := ⟨_, rfl⟩
  rw [hy] at hset
  have ex : (x : Int) + 1 = (y : Int) := by omega
  have hxb : (x : Int) ≤ 254 := by omega
  simp at c1
  simp only [Te] at c1 d0 fz hset hA
  have HS := Lib.hid (And.intro hset hA)
  unfold tv
  clear hM hF hM1 hF1 hset hx hA hs hn hb hy
  go_enter Tryz.func62, Tryz.ntmps62
  go_wp2_with fail
  ((try simp only [Exit.inBlock, Exit.then]); refine bodyPost_ret (results_none rfl _ _ _) rfl ?_)
  exact ⟨rfl, HS.out.1, HS.out.2.nil.trans (Fr.setCell _ _ _ _)⟩
set_option maxRecDepth 2000000 in
set_option maxHeartbeats 6400000 in
theorem meet_any (b1 b2 gl nl cl : Nat) (hn : nl ≤ 1000) (p : PT) : ∀ (t : Th) (F : Nat → Nat) (w : World) (hT : Tree w gl p t) (hM : Meets w b1 b2 gl nl cl) (hF : Nrow w gl 5 .u8 nl F) (hs : ∀ s, 0 < occ p s → s < nl) (hb : ∀ s, F s + occ p s ≤ 255),
    Calls Tryz.prog 62 #[tv t, .pointer (some ⟨b1, 0, none⟩), .pointer (some ⟨b2, 0, none⟩)] w fun e w' => e = .returned (.tuple #[]) ∧ Nrow w' gl 5 .u8 nl (fun k => F k + occ p k) ∧ Fr [gl] w w' := by
  induction p with
  | leaf s =>
    rintro ⟨tw, ts, two⟩ F w ⟨h1, h2⟩ hM hF hs hb
    simp only at h1 h2
    subst h1
    subst h2
    exact meet_leaf b1 b2 gl nl cl ts tw F w hM hF (hs ts (by simp [occ])) hn (by have := hb ts; simp [occ] at this; omega)
  | node a b iha ihb =>
    rintro ⟨tw, ts, two⟩ F w ⟨g, x, y, h1, h2, h3, h4, h5⟩ hM hF hs hb
    simp only at h1
    subst h1
    have hA := Fr.alloc [] w (.cells (Te ⟨tw, ts, some ⟨g, 0, none⟩⟩).toArray 119)
    have hM1 := hM.to hA.nil
    have hF1 := hF.to hA (by simp)
    have h3' := hA.blk h3 (by simp)
    have hgl : gl ≠ w.heap.size := by have := lt_of hF; omega
    have hbox := new_of w (.cells (Te ⟨tw, ts, some ⟨g, 0, none⟩⟩).toArray 119)
    have c2 := cell_of hM1.h2 0
    have g0 := cell_of h3' 0
    have g1 := cell_of h3' 1
    have g2 := cell_of h3' 2
    have hglt := lt_of h3'
    have HA1 := Lib.hid (fun W (f : Fr [] (w.alloc (.cells (Te ⟨tw, ts, some ⟨g, 0, none⟩⟩).toArray 119)) W) => iha x F W (Tree.to f.nil a x (Tree.to hA.nil a x h4)) (hM1.to f.nil) (hF1.to f (by simp)) (fun s h => hs s (by simp [occ]; omega)) (fun s => by have := hb s; simp [occ] at this; omega))
    have HS := Lib.hid (And.intro h2 (And.intro h3' (And.intro h5 (And.intro hM1 (And.intro hs (And.intro hb (And.intro hA (And.intro hgl hbox))))))))
    simp [Te] at c2 g0 g1 g2 hglt
    simp only [Te] at HA1 HS
    unfold tv at *
    clear hM hF hM1 hF1 hs hb hA hgl hbox h2 h3 h3' h4 h5 iha
    go_enter Tryz.func62, Tryz.ntmps62
    go_wp2_with fail
    refine wp_region_quiet_tail 6 (by kernel_rfl) (by kernel_rfl) ?_
    simp only [List.take_succ_cons, List.take_zero, List.drop_succ_cons, List.drop_zero]
    repeat go_big_quiet_step (fail)
    refine wpQuiet_nil ?_
    go_wp2_with fail
    refine (HA1.out _ (Fr.drew (Fr.refl [] _))).mono ?_
    rintro e w1 ⟨rfl, hF2, f2⟩
    obtain ⟨h2, h3', h5, hM1, hs, hb, hA, hgl, hbox⟩ := HS.out
    have f3 := (Fr.drew (Fr.refl [gl] (w.alloc (.cells #[.int .i64 (tw : Int), .int .i64 (ts : Int), .pointer (some ⟨g, 0, none⟩)] 119)))).trans f2
    have hbox1 := f3.blk hbox (by simpa using Ne.symm hgl)
    have h31 := f3.blk h3' (by simpa using h2)
    have hM2 := hM1.to f3
    have hT2 := Tree.to f3 b y (Tree.to hA.nil b y h5)
    have e0 := cell_of hbox1 2
    have e2 := cell_of hM2.h2 0
    have k0 := cell_of h31 3
    have k1 := cell_of h31 4
    have k2 := cell_of h31 5
    have hglt1 := lt_of h31
    have HA2 := Lib.hid (fun W (f : Fr [] w1 W) => ihb y (fun k => F k + occ a k) W (Tree.to f.nil b y hT2) (hM2.to f.nil) (hF2.to f (by simp)) (fun s h => hs s (by simp [occ]; omega)) (fun s => by have := hb s; simp [occ] at this; omega))
    have H2 := Lib.hid (hA.nil.trans f3)
    simp at e0 e2 k0 k1 k2
    unfold tv at HA2
    clear h2 h3' h5 hM1 hs hb hA hgl hbox f2 f3 hbox1 h31 hM2 hT2 hF2 ihb c2 g0 g1 g2
    go_wp2_with fail
    refine wp_region_quiet_tail 6 (by kernel_rfl) (by kernel_rfl) ?_
    simp only [List.take_succ_cons, List.take_zero, List.drop_succ_cons, List.drop_zero]
    repeat go_big_quiet_step (fail)
    refine wpQuiet_nil ?_
    go_wp2_with fail
    refine (HA2.out _ (Fr.drew (Fr.refl [] _))).mono ?_
    rintro e w3 ⟨rfl, hF3, f4⟩
    have H3 := Lib.hid (And.intro hF3 (H2.out.trans ((Fr.drew (Fr.refl [gl] w1)).trans f4)))
    clear hF3 f4
    go_wp2_with fail
    go_end0
    refine ⟨rfl, H3.out.1.congr fun k _ => ?_, H3.out.2⟩
    simp only [occ]; omega
end Go.Proofs.YtciejmlhdmjajaaGreat

