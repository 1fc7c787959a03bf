/- The statement HuffTells: the walk of its Go function. -/
import Derived.Test.YtmnipgmheapfbaaIh
import Derived.Test.YtmnipgmheapfbaaHs
import Derived.Test.YtmnipgmheapfbaaHu
import Derived.Test.YtmnipgmheapfbaaSi
namespace Go.Proofs.Ytmnipgmheapfbaa
open Go.RowKit
set_option linter.unusedVariables false
set_option linter.unusedSimpArgs false

theorem tl_nat_u64 {x : Int} (h : (Lit.int .u64 x).wf = true) : ∃ n : Nat, x = (n : Int) ∧ n < 18446744073709551616 := by
  simp [Lit.wf, IntKind.min, IntKind.max, IntKind.signed, IntKind.bits] at h
  exact ⟨x.toNat, by omega, by omega⟩
theorem tl_i64 {x : Int} (h : (Lit.int .i64 x).wf = true) : -9223372036854775808 ≤ x ∧ x ≤ 9223372036854775807 := by
  simp [Lit.wf, IntKind.min, IntKind.max, IntKind.signed, IntKind.bits] at h
  omega

set_option maxRecDepth 2000000 in
set_option maxHeartbeats 6400000 in
theorem tells_big (w : World) (a0 : Option Addr) (c0 : Nat) (x0 : List Nat) (l0 : x0.length ≤ 9223372036854775807) (f a2 a3 : Int) (hf0 : -9223372036854775808 ≤ f) (hf1 : f ≤ 9223372036854775807) (hb : 330 < x0.length ∨ 12 < f) :
    Calls Try.prog 3 #[.slice a0 x0.length c0, .int .i64 f, .int .u64 a2, .int .i64 a3] w fun e w' => e = .returned (.bool true) ∧ Below w.heap.size w w' := by
  have i0 : (x0.length : Int) ≤ 9223372036854775807 := by omega
  obtain ⟨n0, hn0⟩ : ∃ n, x0.length = n := ⟨_, rfl⟩
  rw [hn0] at hb i0 ⊢
  clear hn0 l0
  by_cases h1 : 330 < n0
  · have j1 : (330 : Int) < (n0 : Int) := by omega
    clear hb h1
    go_enter Try.func3, Try.ntmps3
    go_wp2_with fail
    refine (alive_any _).mono ?_
    rintro e w1 ⟨rfl, f1⟩
    have HF1 := Lib.hid f1
    clear f1
    go_wp2_with fail
    go_ret
    exact ⟨rfl, HF1.out.below⟩
  · have j1 : (n0 : Int) ≤ 330 := by omega
    have j2 : 12 < f := by omega
    clear hb h1
    go_enter Try.func3, Try.ntmps3
    go_wp2_with fail
    refine (alive_any _).mono ?_
    rintro e w1 ⟨rfl, f1⟩
    have HF1 := Lib.hid f1
    clear f1
    go_wp2_with fail
    go_ret
    exact ⟨rfl, HF1.out.below⟩

/-- What both Writes answer: the same rows, or nothing and the same error. -/
theorem tells_writes (w : World) (a0 : Option Addr) (c0 : Nat) (x0 : List Nat) (s0 : SlOf U8 1 w a0 x0) (l0 : x0.length ≤ 9223372036854775807) (h8 : ∀ y ∈ x0, y < 256) :
    ∃ er : Int, ∀ W, Fr [] w W → Calls Try.prog 11 #[.slice a0 x0.length c0] W fun e w1 => Fr [] W w1 ∧ ∃ v1, e = .returned (.tuple #[v1, .int .i64 er]) ∧
      ∀ W1, Fr [] w1 W1 → Calls Try.prog 12 #[.slice a0 x0.length c0] W1 fun e w2 => Fr [] W1 w2 ∧ ∃ v2, e = .returned (.tuple #[v2, .int .i64 er]) ∧
        ∀ W2, Fr [] w2 W2 → Calls Try.prog 13 #[v1, v2] W2 fun e w3 => e = .returned (.bool true) ∧ Fr [] W2 w3 := by
  by_cases hk : kindN x0 = 5 ∨ kindN x0 = 4
  · obtain ⟨er, her⟩ : ∃ er : Nat, kindN x0 = 5 ∧ er = 2 ∨ kindN x0 = 4 ∧ er = 7 := by
      rcases hk with h | h
      · exact ⟨2, .inl ⟨h, rfl⟩⟩
      · exact ⟨7, .inr ⟨h, rfl⟩⟩
    refine ⟨(er : Int), fun W hW => (hwrites_bad a0 c0 x0 W (s0.below hW.below) l0 h8 er her).mono ?_⟩
    rintro e w1 ⟨he, f1⟩
    refine ⟨f1, _, he, fun W1 hW1 => (rwrites_bad a0 c0 x0 W1 (s0.below ((hW.trans f1).trans hW1).below) l0 h8 er her).mono ?_⟩
    rintro e w2 ⟨he2, f2⟩
    exact ⟨f2, _, he2, fun W2 hW2 => same_nil W2⟩
  · have hk5 : kindN x0 ≠ 5 := fun h => hk (.inl h)
    have hk4 : kindN x0 ≠ 4 := fun h => hk (.inr h)
    have hlen := (kind_ok (kind_le hk5)).1
    refine ⟨0, fun W hW => (hwrites_any a0 c0 x0 W (s0.below hW.below) l0 h8 hk5 hk4).mono ?_⟩
    rintro e w1 ⟨g1, he, _, hP1, f1⟩
    refine ⟨f1, _, he, fun W1 hW1 => (rwrites_any a0 c0 x0 W1 (s0.below ((hW.trans f1).trans hW1).below) l0 h8 hk5 hk4).mono ?_⟩
    rintro e w2 ⟨g2, he2, _, hP2, f2⟩
    exact ⟨f2, _, he2, fun W2 hW2 => same_any g1 g2 _ (codeW x0) W2 (((hP1.to hW1 (by simp)).to f2 (by simp)).to hW2 (by simp)) (hP2.to hW2 (by simp)) (by omega)⟩

set_option maxRecDepth 2000000 in
set_option maxHeartbeats 6400000 in
theorem tells_none (w : World) (a0 : Option Addr) (c0 : Nat) (x0 : List Nat) (s0 : SlOf U8 1 w a0 x0) (l0 : x0.length ≤ 330) (h8 : ∀ y ∈ x0, y < 256) (f a2 a3 : Int) (hf0 : -9223372036854775808 ≤ f) (hf1 : f ≤ 12) (er : Int)
    (hn1 : ∀ W, Fr [] w W → Calls Try.prog 9 #[.slice a0 x0.length c0, .int .i64 f] W fun e w' => e = .returned (.tuple #[.pointer none, .int .i64 er]) ∧ Fr [] W w')
    (hn2 : ∀ W, Fr [] w W → Calls Try.prog 10 #[.slice a0 x0.length c0, .int .i64 f] W fun e w' => e = .returned (.tuple #[.pointer none, .int .i64 er]) ∧ Fr [] W w') :
    Calls Try.prog 3 #[.slice a0 x0.length c0, .int .i64 f, .int .u64 a2, .int .i64 a3] w fun e w' => e = .returned (.bool true) ∧ Below w.heap.size w w' := by
  obtain ⟨ew, hwr⟩ := tells_writes w a0 c0 x0 s0 (by omega) h8
  have HN1 := Lib.hid hn1
  have HN2 := Lib.hid hn2
  have HWR := Lib.hid hwr
  have i0 : (x0.length : Int) ≤ 330 := by omega
  clear hn1 hn2 hwr s0 h8 l0
  go_enter Try.func3, Try.ntmps3
  go_wp2_with fail
  refine (HN1.out _ (Fr.refl _ _)).mono ?_
  rintro e w1 ⟨rfl, f1⟩
  have HF1 := Lib.hid f1
  clear f1
  go_wp2_with fail
  refine (HN2.out _ HF1.out).mono ?_
  rintro e w2 ⟨rfl, f2⟩
  have HF2 := Lib.hid (HF1.out.trans f2)
  clear f2 HF1
  go_wp2_with fail
  refine (HWR.out _ HF2.out).mono ?_
  rintro e w3 ⟨f3, v1, rfl, h3⟩
  have HF3 := Lib.hid (HF2.out.trans f3)
  have H3 := Lib.hid h3
  clear f3 h3 HF2
  go_wp2_with fail
  refine (H3.out _ (Fr.refl _ _)).mono ?_
  rintro e w4 ⟨f4, v2, rfl, h4⟩
  have HF4 := Lib.hid (HF3.out.trans f4)
  have H4 := Lib.hid h4
  clear f4 h4 HF3
  go_wp2_with fail
  refine (H4.out _ (Fr.refl _ _)).mono ?_
  rintro e w5 ⟨rfl, f5⟩
  have HF5 := Lib.hid (HF4.out.trans f5)
  clear f5 HF4
  go_wp2_with fail
  refine (alive_any _).mono ?_
  rintro e w6 ⟨rfl, f6⟩
  have HF6 := Lib.hid (HF5.out.trans f6)
  clear f6 HF5
  go_wp2_with fail
  go_ret
  exact ⟨rfl, HF6.out.below⟩

set_option maxRecDepth 2000000 in
set_option maxHeartbeats 6400000 in
theorem tells_any (w : World) (a0 : Option Addr) (c0 : Nat) (x0 : List Nat) (s0 : SlOf U8 1 w a0 x0) (l0 : x0.length ≤ 320) (h8 : ∀ y ∈ x0, y < 256) (F x : Nat) (h : Int) (hF0 : 1 ≤ F) (hF1 : F ≤ 12) (hx : x < 18446744073709551616) (hh0 : -9223372036854775808 ≤ h) (hh1 : h ≤ 9223372036854775807)
    (hk5 : kindN x0 ≠ 5) (hk4 : kindN x0 ≠ 4) (hk3 : kindN x0 ≠ 3) :
    Calls Try.prog 3 #[.slice a0 x0.length c0, .int .i64 (F : Int), .int .u64 (x : Int), .int .i64 h] w fun e w' => e = .returned (.bool true) ∧ Below w.heap.size w w' := by
  have hT := tab_of hk5 hk4 hk3
  obtain ⟨ew, hwr⟩ := tells_writes w a0 c0 x0 s0 (by omega) h8
  have HN1 := Lib.hid (fun W (hW : Fr [] w W) => hnew_any a0 c0 x0 F W (s0.below hW.below) (by omega) h8 hF0 (by omega) hk5 hk4 hk3)
  have HN2 := Lib.hid (fun W (hW : Fr [] w W) => rnewt_any a0 c0 x0 F W (s0.below hW.below) (by omega) h8 hF0 (by omega) hk5 hk4 hk3)
  have HWR := Lib.hid hwr
  have HH := Lib.hid (And.intro hT l0)
  have HHH := Lib.hid (And.intro hh0 hh1)
  obtain ⟨r, hlk⟩ : ∃ r : Nat × Nat × Int, ∀ (ta tb hi : Nat) W, Tb W hi ta x0 F → Rt W tb x0 F → Calls Try.prog 14 #[.pointer (some ⟨ta, 0, none⟩), .int .u64 (x : Int), .int .i64 h] W fun e w' => Fr [] W w' ∧ e = .returned (.tuple #[.int .i64 (r.1 : Int), .int .i64 (r.2.1 : Int), .int .i64 r.2.2]) ∧
      Calls Try.prog 15 #[.pointer (some ⟨tb, 0, none⟩), .int .u64 (x : Int), .int .i64 h] w' fun e w2 => e = .returned (.tuple #[.int .i64 (r.1 : Int), .int .i64 (r.2.1 : Int), .int .i64 r.2.2]) ∧ Fr [] w' w2 := by
    by_cases hneg : h < 0
    · refine ⟨(0, 0, 2), fun ta tb hi W hA hB => (look_arg ta x0 F hi x h W hA hneg).mono ?_⟩
      rintro e w' ⟨he, hf⟩
      exact ⟨hf, he, rlook_arg tb x h w' hneg⟩
    · refine ⟨lookN x0 x (min h.toNat 15), fun ta tb hi W hA hB => (look_any ta x0 F hi x h W hA hT.1 l0 (by omega) hx (by omega) hh1).mono ?_⟩
      rintro e w' ⟨he, hf⟩
      refine ⟨hf, he, ?_⟩
      have := rlook_any tb x0 F x h w' (hB.to hf) hT.1 l0 hx (by omega) hh1
      rw [look_eq x0 hT] at this
      exact this
  obtain ⟨r0, r1, r2⟩ := r
  have HLK := Lib.hid hlk
  have i0 : (x0.length : Int) ≤ 320 := by omega
  have i1 : 1 ≤ (F : Int) := by omega
  have i2 : (F : Int) ≤ 12 := by omega
  have i3 : (x : Int) ≤ 18446744073709551615 := by omega
  obtain ⟨n0, hn0⟩ : ∃ n, x0.length = n := ⟨_, rfl⟩
  have HCE := Lib.hid (fun (ta hi : Nat) W (hA : Tb W hi ta x0 F) => cells_any ta x0 F hi W hA hT.1 (by omega))
  have HRC := Lib.hid (fun (tb : Nat) W (hA : Rt W tb x0 F) => rcells_any tb x0 F W hA hT.1 l0 (by omega))
  obtain ⟨cn, hcn⟩ : ∃ cn, cellsN x0 F = cn := ⟨_, rfl⟩
  rw [hcn] at HCE HRC
  clear hT hwr s0 h8 l0 hF0 hF1 hx hh0 hh1 hk5 hk4 hk3 hlk hcn
  rw [hn0] at i0 HN1 HN2 HWR ⊢
  clear hn0
  go_enter Try.func3, Try.ntmps3
  go_wp2_with fail
  refine (HN1.out _ (Fr.refl _ _)).mono ?_
  rintro e w1 ⟨ta, rfl, _, hTa, f1⟩
  have HF1 := Lib.hid f1
  have HTa := Lib.hid hTa
  clear f1 hTa
  go_wp2_with fail
  refine (HN2.out _ HF1.out).mono ?_
  rintro e w2 ⟨tb, rfl, hTb, f2⟩
  have HF2 := Lib.hid (HF1.out.trans f2)
  have HTT := Lib.hid (And.intro (HTa.out.to f2 (by simp)) hTb)
  clear f2 HF1 hTb HTa
  go_wp2_with fail
  refine (HWR.out _ HF2.out).mono ?_
  rintro e w3 ⟨f3, v1, rfl, h3⟩
  have HF3 := Lib.hid f3
  have H3 := Lib.hid h3
  clear f3 h3
  go_wp2_with fail
  refine (H3.out _ (Fr.refl _ _)).mono ?_
  rintro e w4 ⟨f4, v2, rfl, h4⟩
  have HF4 := Lib.hid (HF3.out.trans f4)
  have H4 := Lib.hid h4
  clear f4 h4 HF3
  go_wp2_with fail
  refine (H4.out _ (Fr.refl _ _)).mono ?_
  rintro e w5 ⟨rfl, f5⟩
  have HF5 := Lib.hid (HF4.out.trans f5)
  clear f5 HF4
  go_wp2_with fail
  refine (HLK.out ta tb _ _ (HTT.out.1.to HF5.out (by simp)) (HTT.out.2.to HF5.out)).mono ?_
  rintro e w6 ⟨f6, rfl, h6⟩
  have HF6 := Lib.hid (HF5.out.trans f6)
  have H6 := Lib.hid h6
  clear f6 HF5 h6
  go_wp2_with fail
  refine H6.out.mono ?_
  rintro e w7 ⟨rfl, f7⟩
  have HF7 := Lib.hid (HF6.out.trans f7)
  clear f7 HF6
  by_cases h7 : 7 < (F : Int)
  · go_wp2_with fail
    refine (alive_any _).mono ?_
    rintro e w8 ⟨rfl, f8⟩
    have HF8 := Lib.hid (HF7.out.trans f8)
    clear f8 HF7
    go_wp2_with fail
    go_ret
    exact ⟨rfl, (HF2.out.trans HF8.out).below⟩
  · by_cases h60 : 60 < (n0 : Int)
    · go_wp2_with fail
      refine (alive_any _).mono ?_
      rintro e w8 ⟨rfl, f8⟩
      have HF8 := Lib.hid (HF7.out.trans f8)
      clear f8 HF7
      go_wp2_with fail
      go_ret
      exact ⟨rfl, (HF2.out.trans HF8.out).below⟩
    · go_wp2_with fail
      refine (HCE.out ta _ _ (HTT.out.1.to HF7.out (by simp))).mono ?_
      rintro e w8 ⟨rfl, f8⟩
      have HF8 := Lib.hid (HF7.out.trans f8)
      clear f8 HF7
      go_wp2_with fail
      refine (HRC.out tb _ (HTT.out.2.to HF8.out)).mono ?_
      rintro e w9 ⟨rfl, f9⟩
      have HF9 := Lib.hid (HF8.out.trans f9)
      clear f9 HF8
      go_wp2_with fail
      refine (alive_any _).mono ?_
      rintro e w10 ⟨rfl, f10⟩
      have HF10 := Lib.hid (HF9.out.trans f10)
      clear f10 HF9
      go_wp2_with fail
      go_ret
      exact ⟨rfl, (HF2.out.trans HF10.out).below⟩

theorem huffTells_walk (w : World) (a0 : Option Addr) (c0 : Nat) (x0 : List Nat) (l0 : x0.length ≤ maxLen) (s0 : SlOf (Un .u8) 1 w a0 x0) (o0 : ∀ x, x ∈ x0 → x < 256) (a1 : Int) (w1 : (Lit.int .i64 a1).wf = true) (a2 : Int) (w2 : (Lit.int .u64 a2).wf = true) (a3 : Int) (w3 : (Lit.int .i64 a3).wf = true) :
    Calls Try.prog 3 #[.slice a0 x0.length c0, .int .i64 a1, .int .u64 a2, .int .i64 a3] w fun e w' => e = .returned (.bool true) ∧ Below w.heap.size w w' := by
  replace s0 : SlOf U8 1 w a0 x0 := s0
  unfold maxLen at l0
  obtain ⟨f0, f1⟩ := tl_i64 w1
  obtain ⟨h0, h1⟩ := tl_i64 w3
  obtain ⟨n2, rfl, hn2⟩ := tl_nat_u64 w2
  by_cases hb : 330 < x0.length ∨ 12 < a1
  · exact tells_big w a0 c0 x0 l0 a1 _ _ f0 f1 hb
  by_cases hk5 : a1 < 1 ∨ 15 < a1 ∨ kindN x0 = 5
  · exact tells_none w a0 c0 x0 s0 (by omega) o0 a1 _ _ f0 (by omega) 2 (fun W hW => hnew_arg a0 c0 x0 a1 W (s0.below hW.below) l0 o0 f0 f1 hk5) (fun W hW => rnew_arg a0 c0 x0 a1 W (s0.below hW.below) l0 o0 f0 f1 hk5)
  by_cases hk43 : kindN x0 = 4 ∨ kindN x0 = 3
  · exact tells_none w a0 c0 x0 s0 (by omega) o0 a1 _ _ f0 (by omega) 7 (fun W hW => hnew_form a0 c0 x0 a1 W (s0.below hW.below) l0 o0 (by omega) (by omega) hk43) (fun W hW => rnew_form a0 c0 x0 a1 W (s0.below hW.below) l0 o0 (by omega) (by omega) hk43)
  · have hlen := (kind_ok (kind_le (l := x0) (by omega))).1
    obtain ⟨F, rfl⟩ : ∃ F : Nat, a1 = (F : Int) := ⟨a1.toNat, by omega⟩
    exact tells_any w a0 c0 x0 s0 hlen o0 F n2 a3 (by omega) (by omega) hn2 h0 h1 (by omega) (by omega) (by omega)
end Go.Proofs.Ytmnipgmheapfbaa

