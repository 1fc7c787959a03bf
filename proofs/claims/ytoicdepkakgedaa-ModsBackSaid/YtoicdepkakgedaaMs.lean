/- The statement ModsDiff: the walk of its Go function. -/
import Derived.Test.YtoicdepkakgedaaMq
namespace Go.Proofs.Ytoicdepkakgedaa
open Go.RowKit
set_option linter.unusedVariables false
set_option linter.unusedSimpArgs false

theorem u8_of {x : Int} (h : (Lit.int .u8 x).wf = true) : ∃ c : UInt8, x = (c.toNat : Int) := by
  obtain ⟨h0, h1⟩ := bounds_u8 h
  refine ⟨UInt8.ofNat x.toNat, ?_⟩
  simp
  omega
theorem beq_toList (a b : ByteArray) (bb : Bool) (h : decide (a = b) = bb) : (a.toList == b.toList) = bb := by
  rw [← h, Bool.eq_iff_iff]
  simp [toList_inj]

set_option maxRecDepth 2000000 in
set_option maxHeartbeats 3200000 in
theorem modsDiff_walk (w : World) (a0 : ByteArray) (w0 : a0.size ≤ maxLen) (a1 : ByteArray) (w1 : a1.size ≤ maxLen) (a2 : Int) (w2 : (Lit.int .u8 a2).wf = true) (a3 : Int) (w3 : (Lit.int .u8 a3).wf = true) :
    Calls Try.prog 9 #[.string a0, .string a1, .int .u8 a2, .int .u8 a3] w fun e w' => e = .returned (.bool true) ∧ Below w.heap.size w w' := by
  unfold maxLen at w0 w1
  obtain ⟨z, rfl⟩ := u8_of w2
  obtain ⟨c, rfl⟩ := u8_of w3
  have i0 : (a0.size : Int) ≤ 9223372036854775807 := by omega
  have i1 : (a1.size : Int) ≤ 9223372036854775807 := by omega
  clear w0 w1 w2 w3
  by_cases h1 : 16384 < a0.size
  · have j1 : (16384 : Int) < (a0.size : Int) := by omega
    clear h1
    go_enter Try.func9, Try.ntmps9
    go_wp2_with fail
    refine (alive_any _).mono ?_
    rintro e w1 ⟨rfl, f1⟩
    go_wp2_with fail
    go_ret
    exact ⟨rfl, f1.below⟩
  by_cases h2 : 16384 < a1.size
  · have j1 : (a0.size : Int) ≤ 16384 := by omega
    have j2 : (16384 : Int) < (a1.size : Int) := by omega
    clear h1 h2
    go_enter Try.func9, Try.ntmps9
    go_wp2_with fail
    refine (alive_any _).mono ?_
    rintro e w1 ⟨rfl, f1⟩
    go_wp2_with fail
    go_ret
    exact ⟨rfl, f1.below⟩
  have j1 : (a0.size : Int) ≤ 16384 := by omega
  have j2 : (a1.size : Int) ≤ 16384 := by omega
  have hpg := fun W => pages_any a0 a1 z.toNat c W z.toNat_lt
  obtain ⟨p1, p2, p3⟩ := pgN_page z.toNat
  have sA := pgS_size (pgN z.toNat) c a0
  have sB := pgS_size (pgN z.toNat) c a1
  generalize pgS (pgN z.toNat) c a0 = A at *
  generalize pgS (pgN z.toNat) c a1 = B at *
  generalize pgN z.toNat = n at *
  have hpA : pageB A.size = true := by rw [sA]; exact p1
  have hAB : A.size = B.size := by rw [sA, sB]
  obtain ⟨V, hV⟩ : ∃ V, V = (dlist (differs A B) A.size).map (runM B) := ⟨_, rfl⟩
  obtain ⟨q1, q2, q3, q4, q5, q6⟩ := diff_answers A B hpA hAB V hV
  obtain ⟨d1, d2⟩ := dif_ok (a := A) (b := B) (by unfold difB; rw [hpA, decide_eq_true hAB]; rfl)
  rw [← hV] at d1
  have hz : sizeN V ≤ 5 * n := by
    have := diff_size A B hAB
    rw [← hV] at this
    have := dcount_le (differs A B) A.size
    omega
  have hvl := length_sizeN V
  have hnil := diff_nil A B hAB
  rw [← hV] at hnil
  obtain ⟨nl, hnl⟩ : ∃ nl, V.length = nl := ⟨_, rfl⟩
  obtain ⟨bb, hbb⟩ : ∃ bb : Bool, decide (A = B) = bb := ⟨_, rfl⟩
  have hb1 : ((nl : Int) == 0) = bb := by
    rw [← hbb, Bool.eq_iff_iff, beq_iff_eq, decide_eq_true_eq, ← hnil, ← hnl]
    constructor
    · intro h; exact List.eq_nil_of_length_eq_zero (by omega)
    · rintro h; rw [h]; rfl
  have hb2 := beq_toList A B bb hbb
  have hD : ∀ W, Calls Try.prog 25 #[.string A, .string B] W fun e w' => ∃ a c, e = .returned (.tuple #[.slice a nl c, .int .i64 0]) ∧ SlOf Md.enc 2 w' a V ∧ Fr [] W w' := fun W => by
    refine (diff_any A B W (by omega) (by omega)).mono ?_
    rintro e w' ⟨v, rfl, h1, h2⟩
    rw [d1] at h1
    rw [d2]
    obtain ⟨a, c, rfl, h3⟩ := slOf_own md_len h1 rfl
    rw [hnl]
    exact ⟨a, c, rfl, h3, h2⟩
  have hD2 : ∀ W, Calls Try.prog 29 #[.string A, .string B] W fun e w' => ∃ a c, e = .returned (.tuple #[.slice a nl c, .int .i64 0]) ∧ SlOf Md.enc 2 w' a V ∧ Fr [] W w' := fun W => by
    refine (rdiff_any A B W (by omega) (by omega)).mono ?_
    rintro e w' ⟨v, rfl, h1, h2⟩
    rw [d1] at h1
    rw [d2]
    obtain ⟨a, c, rfl, h3⟩ := slOf_own md_len h1 rfl
    rw [hnl]
    exact ⟨a, c, rfl, h3, h2⟩
  have hA : ∀ W a c, SlOf Md.enc 2 W a V → Calls Try.prog 14 #[.string A, .slice a nl c] W fun e w' => e = .returned (.tuple #[.string B, .int .i64 0]) ∧ Fr [] W w' := fun W a c h => by
    have := apply_any A a c V W h (by omega) (by omega) (by omega)
    rw [q1, q2, hnl] at this; exact this
  obtain ⟨LOG, hLOG⟩ : ∃ LOG, encS A.size V = LOG := ⟨_, rfl⟩
  rw [hLOG] at q4 q5 q6
  have hE : ∀ W a c, SlOf Md.enc 2 W a V → Calls Try.prog 12 #[.int .i64 (A.size : Int), .slice a nl c] W fun e w' => e = .returned (.tuple #[.string LOG, .int .i64 0]) ∧ Fr [] W w' := fun W a c h => by
    have := encode_any A.size a c V W h (by omega) (by omega)
    rw [q3, hLOG, hnl] at this; exact this
  have hR : ∀ W, Calls Try.prog 27 #[.string A, .string LOG] W fun e w' => e = .returned (.tuple #[.string B, .int .i64 0]) ∧ Fr [] W w' := fun W => by
    have := replay_any A LOG W (by omega) (by omega)
    rw [q4, q5] at this; exact this
  obtain ⟨BX, hBX⟩ : ∃ BX, B ++ ⟨#[120]⟩ = BX := ⟨_, rfl⟩
  have sBX : BX.size = B.size + 1 := by rw [← hBX, ByteArray.size_append]; rfl
  have hadd : ∀ W, (Op.stringOp .add B ⟨#[120]⟩).run Try.prog W = .ok (.string BX) W := fun W => by
    rw [← hBX]; exact run_string_add_sum (P := Try.prog) W B ⟨#[120]⟩ (by show B.size + 1 ≤ _; omega)
  have hX : ∀ W, Calls Try.prog 25 #[.string A, .string BX] W fun e w' => ∃ v, e = .returned (.tuple #[v, .int .i64 2]) ∧ Fr [] W w' := fun W => by
    refine (diff_any A BX W (by omega) (by omega)).mono ?_
    rintro e w' ⟨v, rfl, h1, h2⟩
    rw [(dif_bad (a := A) (b := BX) (by unfold difB; rw [decide_eq_false (by omega)]; simp)).2]
    exact ⟨v, rfl, h2⟩
  have hS : ∀ W a b c d, SlOf Md.enc 2 W a V → SlOf Md.enc 2 W b V → Calls Try.prog 23 #[.slice a nl c, .slice b nl d] W fun e w' => e = .returned (.bool true) ∧ Fr [] W w' := fun W a b c d h k => by
    have := same_any a b c d V V W h k (by omega) (by omega)
    rw [decide_eq_true rfl, hnl] at this; exact this
  have H := Lib.hid (And.intro hpg (And.intro hD (And.intro hD2 (And.intro hA (And.intro hE (And.intro hR (And.intro hX hS)))))))
  have HADD := Lib.hid hadd
  have i5 : (A.size : Int) ≤ 16384 := by omega
  have i6 : (B.size : Int) ≤ 16384 := by omega
  have i7 : (nl : Int) ≤ 1000000 := by omega
  have HBB := Lib.hid (And.intro hb1 hb2)
  clear hpg hD hD2 hA hE hR hX hS hadd hb1 hb2 h1 h2 p1 p2 p3 sA sB hpA hAB hV q1 q2 q3 q4 q5 q6 d1 d2 hz hvl hnil hnl hbb hLOG hBX sBX
  go_enter Try.func9, Try.ntmps9
  go_wp2_with fail
  refine (H.out.1 _).mono ?_
  rintro e w1 ⟨rfl, f1⟩
  have F1 := Lib.hid f1
  clear f1
  go_wp2_with fail
  refine (H.out.2.1 _).mono ?_
  rintro e w2 ⟨b1, e1, rfl, s2, f2⟩
  have F2 := Lib.hid (And.intro s2 (F1.out.trans f2))
  clear s2 f2
  go_wp2_with fail
  refine (H.out.2.2.1 _).mono ?_
  rintro e w3 ⟨b2, e2, rfl, s3, f3⟩
  have F3 := Lib.hid (And.intro (F2.out.1.to f3) (And.intro s3 (F2.out.2.trans f3)))
  clear s3 f3
  go_wp2_with fail
  refine (H.out.2.2.2.1 _ _ _ F3.out.1).mono ?_
  rintro e w4 ⟨rfl, f4⟩
  have F4 := Lib.hid (And.intro (F3.out.1.to f4) (And.intro (F3.out.2.1.to f4) (F3.out.2.2.trans f4)))
  clear f4
  go_wp2_with fail
  refine (H.out.2.2.2.2.1 _ _ _ F4.out.1).mono ?_
  rintro e w5 ⟨rfl, f5⟩
  have F5 := Lib.hid (And.intro (F4.out.1.to f5) (And.intro (F4.out.2.1.to f5) (F4.out.2.2.trans f5)))
  clear f5
  go_wp2_with fail
  refine (H.out.2.2.2.2.2.1 _).mono ?_
  rintro e w6 ⟨rfl, f6⟩
  have F6 := Lib.hid (And.intro (F5.out.1.to f6) (And.intro (F5.out.2.1.to f6) (F5.out.2.2.trans f6)))
  clear f6
  have hadd := HADD.out
  go_wp2_with fail
  clear hadd
  refine (H.out.2.2.2.2.2.2.1 _).mono ?_
  rintro e w7 ⟨v7, rfl, f7⟩
  have F7 := Lib.hid (And.intro (F6.out.1.to f7) (And.intro (F6.out.2.1.to f7) (F6.out.2.2.trans f7)))
  clear f7
  go_wp2_with fail
  refine (H.out.2.2.2.2.2.2.2 _ _ _ _ _ F7.out.1 F7.out.2.1).mono ?_
  rintro e w8 ⟨rfl, f8⟩
  have F8 := Lib.hid (F7.out.2.2.trans f8)
  clear f8
  obtain ⟨hb1, hb2⟩ := HBB.out
  go_wp2_with fail
  refine (alive_any _).mono ?_
  rintro e w9 ⟨rfl, f9⟩
  go_wp2_with fail
  go_ret
  exact ⟨rfl, (F8.out.trans f9).below⟩
end Go.Proofs.Ytoicdepkakgedaa
