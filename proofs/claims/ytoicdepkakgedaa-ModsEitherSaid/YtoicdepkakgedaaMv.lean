/- The statement ModsEither: the walk. -/
import Derived.Test.YtoicdepkakgedaaMu
namespace Go.Proofs.Ytoicdepkakgedaa
open Go.RowKit
set_option linter.unusedVariables false
set_option linter.unusedSimpArgs false

set_option maxRecDepth 2000000 in
set_option maxHeartbeats 3200000 in
theorem either_long (w : World) (a0 : ByteArray) (a1 : Int) (b1 : ByteArray) (a2 : Int) (b2 : ByteArray) (a3 : Int) (i0 : (a0.size : Int) ≤ 9223372036854775807) (i1 : (b1.size : Int) ≤ 9223372036854775807) (i2 : (b2.size : Int) ≤ 9223372036854775807) (h : 1024 < a0.size ∨ 1024 < b1.size ∨ 1024 < b2.size) :
    Calls Try.prog 5 #[.string a0, .agg #[.int .i64 a1, .string b1], .agg #[.int .i64 a2, .string b2], .int .u8 a3] w fun e w' => e = .returned (.bool true) ∧ Below w.heap.size w w' := by
  have hf : Below w.heap.size w ((w.alloc (.cells #[.int .i64 a1, .string b1] 34)).alloc (.cells #[.int .i64 a2, .string b2] 34)) := ((Below.refl _ _).alloc (Nat.le_refl _) _).alloc (by simp) _
  have HF := Lib.hid hf
  clear hf
  by_cases h0 : 1024 < a0.size
  · have j0 : (1024 : Int) < (a0.size : Int) := by omega
    clear h h0
    go_enter Try.func5, Try.ntmps5
    go_wp2_with fail
    refine (alive_any _).mono ?_
    rintro e w1 ⟨rfl, f1⟩
    go_wp2_with fail
    go_ret
    exact ⟨rfl, f1.out HF.out (by simp)⟩
  have j0 : (a0.size : Int) ≤ 1024 := by omega
  by_cases h1 : 1024 < b1.size
  · have j1 : (1024 : Int) < (b1.size : Int) := by omega
    clear h h0 h1
    go_enter Try.func5, Try.ntmps5
    go_wp2_with fail
    refine (alive_any _).mono ?_
    rintro e w1 ⟨rfl, f1⟩
    go_wp2_with fail
    go_ret
    exact ⟨rfl, f1.out HF.out (by simp)⟩
  have j1 : (b1.size : Int) ≤ 1024 := by omega
  have j2 : (1024 : Int) < (b2.size : Int) := by omega
  clear h h0 h1
  go_enter Try.func5, Try.ntmps5
  go_wp2_with fail
  refine (alive_any _).mono ?_
  rintro e w1 ⟨rfl, f1⟩
  go_wp2_with fail
  go_ret
  exact ⟨rfl, f1.out HF.out (by simp)⟩

/-- Two blocks, each a modification. -/
structure Two (W : World) (b : Nat) (x : Int) (X : ByteArray) (y : Int) (Y : ByteArray) : Prop where
  x : W.heap[b]? = some (.cells #[.int .i64 x, .string X] 34 (0, 0))
  y : W.heap[b + 1]? = some (.cells #[.int .i64 y, .string Y] 34 (0, 0))
theorem Two.to {W W' : World} {b : Nat} {x y : Int} {X Y : ByteArray} (h : Two W b x X y Y) (f : Fr [] W W') : Two W' b x X y Y := ⟨f.blk h.x (by simp), f.blk h.y (by simp)⟩

set_option maxRecDepth 2000000 in
set_option maxHeartbeats 3200000 in
theorem either_bad (w : World) (a0 : ByteArray) (a1 : Int) (b1 : ByteArray) (a2 : Int) (b2 : ByteArray) (c : UInt8) (j0 : (a0.size : Int) ≤ 1024) (j1 : (b1.size : Int) ≤ 1024) (j2 : (b2.size : Int) ≤ 1024) (h : (mayB 1024 ⟨a1, b1⟩ && mayB 1024 ⟨a2, b2⟩) = false) :
    Calls Try.prog 5 #[.string a0, .agg #[.int .i64 a1, .string b1], .agg #[.int .i64 a2, .string b2], .int .u8 (c.toNat : Int)] w fun e w' => e = .returned (.bool true) ∧ Below w.heap.size w w' := by
  have hf : Below w.heap.size w ((w.alloc (.cells #[.int .i64 a1, .string b1] 34)).alloc (.cells #[.int .i64 a2, .string b2] 34)) := ((Below.refl _ _).alloc (Nat.le_refl _) _).alloc (by simp) _
  have ht : Two ((w.alloc (.cells #[.int .i64 a1, .string b1] 34)).alloc (.cells #[.int .i64 a2, .string b2] 34)) w.heap.size a1 b1 a2 b2 :=
    ⟨(Fr.alloc [] _ _).blk (new_of w _) (by simp), by have := new_of (w.alloc (.cells #[.int .i64 a1, .string b1] 34)) (.cells #[.int .i64 a2, .string b2] 34); simpa using this⟩
  have HF := Lib.hid (And.intro hf ht)
  have hpg : ∀ W, Calls Try.prog 24 #[.string a0, .string ⟨#[]⟩, .int .u8 0, .int .u8 (c.toNat : Int)] W fun e w' => e = .returned (.tuple #[.string (pgS 1024 c a0), .string (pgS 1024 c ⟨#[]⟩)]) ∧ Fr [] W w' := fun W => pages_any a0 ⟨#[]⟩ 0 c W (by decide)
  have sA := pgS_size 1024 c a0
  generalize pgS 1024 c a0 = A at *
  generalize pgS 1024 c ⟨#[]⟩ = A' at *
  have hpA : pageB A.size = true := by rw [sA]; decide
  have hall : allB A.size [⟨a1, b1⟩, ⟨a2, b2⟩] = false := by
    rw [sA]; unfold allB; simp only [List.all_cons, List.all_nil, Bool.and_true]; exact h
  obtain ⟨e1, e2⟩ := app_bad (t := A) (l := [⟨a1, b1⟩, ⟨a2, b2⟩]) (by rw [hall]; simp)
  have hA : ∀ W a c, SlOf Md.enc 2 W a [⟨a1, b1⟩, ⟨a2, b2⟩] → Calls Try.prog 14 #[.string A, .slice a 2 c] W fun e w' => e = .returned (.tuple #[.string ByteArray.empty, .int .i64 2]) ∧ Fr [] W w' := fun W a c h => by
    have := apply_any A a c [⟨a1, b1⟩, ⟨a2, b2⟩] W h (by simp) (by simp [sizeN]; omega) (by omega)
    rw [e1, e2] at this; exact this
  have hm1 := fun W => may_any 1024 ⟨a1, b1⟩ W (by simp only; omega)
  have hm2 := fun W => may_any 1024 ⟨a2, b2⟩ W (by simp only; omega)
  have hsl := fun W : World => (slOf_cells (l := [⟨a1, b1⟩, ⟨a2, b2⟩]) md_len (new_of W (.cells #[.int .i64 a1, .string b1, .int .i64 a2, .string b2] 34)) rfl : SlOf Md.enc 2 _ _ [⟨a1, b1⟩, ⟨a2, b2⟩])
  have H := Lib.hid (And.intro hpg (And.intro hA (And.intro hm1 (And.intro hm2 hsl))))
  clear hpg hA hm1 hm2 hsl e1 e2 hall hpA sA hf ht
  generalize hmx : mayB 1024 ⟨a1, b1⟩ = mx at *
  generalize hmy : mayB 1024 ⟨a2, b2⟩ = my at *
  clear hmx hmy
  cases mx with
  | false =>
    clear h
    go_enter Try.func5, Try.ntmps5
    go_wp2_with fail
    generalize (w.alloc (.cells #[.int .i64 a1, .string b1] 34)).alloc (.cells #[.int .i64 a2, .string b2] 34) = W0 at *
    refine (H.out.1 _).mono ?_
    rintro e w1 ⟨rfl, f1⟩
    have F1 := Lib.hid (And.intro (f1.out HF.out.1 (by simp)) (HF.out.2.to f1))
    clear f1
    have c0 := cell_of F1.out.2.x 0
    have c1 := cell_of F1.out.2.x 1
    go_wp2_with fail
    refine (H.out.2.2.1 _).mono ?_
    rintro e w2 ⟨rfl, f2⟩
    have F2 := Lib.hid (And.intro (f2.out F1.out.1 (by simp)) (F1.out.2.to f2))
    clear f2 c0 c1
    have c0 := cell_of F2.out.2.x 0
    have c1 := cell_of F2.out.2.x 1
    have d0 := cell_of F2.out.2.y 0
    have d1 := cell_of F2.out.2.y 1
    go_wp2_with fail
    clear c0 c1 d0 d1
    refine (H.out.2.1 _ _ _ (H.out.2.2.2.2 _)).mono ?_
    rintro e w3 ⟨rfl, f3⟩
    have F3 := Lib.hid (f3.out ((Fr.alloc [] w2 _).out F2.out.1 (by simp)) (by simp))
    clear f3
    go_wp2_with fail
    refine (alive_any _).mono ?_
    rintro e w4 ⟨rfl, f4⟩
    go_wp2_with fail
    go_ret
    exact ⟨rfl, f4.out F3.out (by simp)⟩
  | true =>
    simp only [Bool.true_and] at h
    subst h
    go_enter Try.func5, Try.ntmps5
    go_wp2_with fail
    generalize (w.alloc (.cells #[.int .i64 a1, .string b1] 34)).alloc (.cells #[.int .i64 a2, .string b2] 34) = W0 at *
    refine (H.out.1 _).mono ?_
    rintro e w1 ⟨rfl, f1⟩
    have F1 := Lib.hid (And.intro (f1.out HF.out.1 (by simp)) (HF.out.2.to f1))
    clear f1
    have c0 := cell_of F1.out.2.x 0
    have c1 := cell_of F1.out.2.x 1
    go_wp2_with fail
    refine (H.out.2.2.1 _).mono ?_
    rintro e w2 ⟨rfl, f2⟩
    have F2 := Lib.hid (And.intro (f2.out F1.out.1 (by simp)) (F1.out.2.to f2))
    clear f2 c0 c1
    have d0 := cell_of F2.out.2.y 0
    have d1 := cell_of F2.out.2.y 1
    go_wp2_with fail
    refine (H.out.2.2.2.1 _).mono ?_
    rintro e w3 ⟨rfl, f3⟩
    have F3 := Lib.hid (And.intro (f3.out F2.out.1 (by simp)) (F2.out.2.to f3))
    clear f3 d0 d1
    have c0 := cell_of F3.out.2.x 0
    have c1 := cell_of F3.out.2.x 1
    have d0 := cell_of F3.out.2.y 0
    have d1 := cell_of F3.out.2.y 1
    go_wp2_with fail
    clear c0 c1 d0 d1
    refine (H.out.2.1 _ _ _ (H.out.2.2.2.2 _)).mono ?_
    rintro e w4 ⟨rfl, f4⟩
    have F4 := Lib.hid (f4.out ((Fr.alloc [] w3 _).out F3.out.1 (by simp)) (by simp))
    clear f4
    go_wp2_with fail
    refine (alive_any _).mono ?_
    rintro e w5 ⟨rfl, f5⟩
    go_wp2_with fail
    go_ret
    exact ⟨rfl, f5.out F4.out (by simp)⟩

set_option maxRecDepth 2000000 in
set_option maxHeartbeats 3200000 in
theorem either_ok (w : World) (a0 : ByteArray) (x : Nat) (X : ByteArray) (y : Nat) (Y : ByteArray) (c : UInt8) (j0 : (a0.size : Int) ≤ 1024) (hx : mayB 1024 ⟨(x : Int), X⟩ = true) (hy : mayB 1024 ⟨(y : Int), Y⟩ = true) :
    Calls Try.prog 5 #[.string a0, .agg #[.int .i64 (x : Int), .string X], .agg #[.int .i64 (y : Int), .string Y], .int .u8 (c.toNat : Int)] w fun e w' => e = .returned (.bool true) ∧ Below w.heap.size w w' := by
  have hf : Below w.heap.size w ((w.alloc (.cells #[.int .i64 (x : Int), .string X] 34)).alloc (.cells #[.int .i64 (y : Int), .string Y] 34)) := ((Below.refl _ _).alloc (Nat.le_refl _) _).alloc (by simp) _
  have ht : Two ((w.alloc (.cells #[.int .i64 (x : Int), .string X] 34)).alloc (.cells #[.int .i64 (y : Int), .string Y] 34)) w.heap.size x X y Y :=
    ⟨(Fr.alloc [] _ _).blk (new_of w _) (by simp), by have := new_of (w.alloc (.cells #[.int .i64 (x : Int), .string X] 34)) (.cells #[.int .i64 (y : Int), .string Y] 34); simpa using this⟩
  have HF := Lib.hid (And.intro hf ht)
  have hpg : ∀ W, Calls Try.prog 24 #[.string a0, .string ⟨#[]⟩, .int .u8 0, .int .u8 (c.toNat : Int)] W fun e w' => e = .returned (.tuple #[.string (pgS 1024 c a0), .string (pgS 1024 c ⟨#[]⟩)]) ∧ Fr [] W w' := fun W => pages_any a0 ⟨#[]⟩ 0 c W (by decide)
  have sA := pgS_size 1024 c a0
  generalize pgS 1024 c a0 = A at *
  generalize pgS 1024 c ⟨#[]⟩ = A' at *
  obtain ⟨b0, b1, b2, b3, b4, b5⟩ := mayB_bounds hx
  obtain ⟨c0, c1, c2, c3, c4, c5⟩ := mayB_bounds hy
  simp only at b0 b1 b2 b3 c0 c1 c2 c3
  have hpA : pageB A.size = true := by rw [sA]; decide
  obtain ⟨B, p1, p2, p3, p4, p5, p6⟩ := either_facts A X Y x y hpA (by rw [sA]; exact hx) (by rw [sA]; exact hy)
  obtain ⟨C, q1, q2, q3, q4, q5, q6⟩ := either_facts A Y X y x hpA (by rw [sA]; exact hy) (by rw [sA]; exact hx)
  have hsw := either_swap A X Y B C x y hpA (by rw [sA]; exact hx) (by rw [sA]; exact hy) p6 q6
  have hB : ∀ W a c, SlOf Md.enc 2 W a [⟨(x : Int), X⟩, ⟨(y : Int), Y⟩] → Calls Try.prog 14 #[.string A, .slice a 2 c] W fun e w' => e = .returned (.tuple #[.string B, .int .i64 0]) ∧ Fr [] W w' := fun W a c h => by
    have := apply_any A a c [⟨(x : Int), X⟩, ⟨(y : Int), Y⟩] W h (by simp) (by simp [sizeN]; omega) (by omega)
    rw [p1, p2] at this; exact this
  have hC : ∀ W a c, SlOf Md.enc 2 W a [⟨(y : Int), Y⟩, ⟨(x : Int), X⟩] → Calls Try.prog 14 #[.string A, .slice a 2 c] W fun e w' => e = .returned (.tuple #[.string C, .int .i64 0]) ∧ Fr [] W w' := fun W a c h => by
    have := apply_any A a c [⟨(y : Int), Y⟩, ⟨(x : Int), X⟩] W h (by simp) (by simp [sizeN]; omega) (by omega)
    rw [q1, q2] at this; exact this
  have hm1 : ∀ W, Calls Try.prog 16 #[.int .i64 1024, .agg #[.int .i64 (x : Int), .string X]] W fun e w' => e = .returned (.bool true) ∧ Fr [] W w' := fun W => by
    have := may_any 1024 ⟨(x : Int), X⟩ W (by simp only; omega); rw [hx] at this; exact this
  have hm2 : ∀ W, Calls Try.prog 16 #[.int .i64 1024, .agg #[.int .i64 (y : Int), .string Y]] W fun e w' => e = .returned (.bool true) ∧ Fr [] W w' := fun W => by
    have := may_any 1024 ⟨(y : Int), Y⟩ W (by simp only; omega); rw [hy] at this; exact this
  have hsB := fun W : World => (slOf_cells (l := [⟨(x : Int), X⟩, ⟨(y : Int), Y⟩]) md_len (new_of W (.cells #[.int .i64 (x : Int), .string X, .int .i64 (y : Int), .string Y] 34)) rfl : SlOf Md.enc 2 _ _ [⟨(x : Int), X⟩, ⟨(y : Int), Y⟩])
  have hsC := fun W : World => (slOf_cells (l := [⟨(y : Int), Y⟩, ⟨(x : Int), X⟩]) md_len (new_of W (.cells #[.int .i64 (y : Int), .string Y, .int .i64 (x : Int), .string X] 34)) rfl : SlOf Md.enc 2 _ _ [⟨(y : Int), Y⟩, ⟨(x : Int), X⟩])
  have H := Lib.hid (And.intro hpg (And.intro hB (And.intro hC (And.intro hm1 (And.intro hm2 (And.intro hsB hsC))))))
  obtain ⟨kx, hkx⟩ : ∃ kx, x + X.size = kx := ⟨_, rfl⟩
  obtain ⟨ky, hky⟩ : ∃ ky, y + Y.size = ky := ⟨_, rfl⟩
  have slB : ∀ W, (Instr.slice 9 (.string B) (some (.int .i64 (y : Int))) (some (.int .i64 (ky : Int))) none).run Try.prog W = .ok (.string Y) W := fun W => by
    have := run_slice_string (P := Try.prog) (w := W) 9 B .i64 .i64 (y : Int) (ky : Int) Try.underlying9 (by omega) (by omega) (by omega)
    rw [hky] at p4
    simpa [p4] using this
  have slC : ∀ W, (Instr.slice 9 (.string C) (some (.int .i64 (x : Int))) (some (.int .i64 (kx : Int))) none).run Try.prog W = .ok (.string X) W := fun W => by
    have := run_slice_string (P := Try.prog) (w := W) 9 C .i64 .i64 (x : Int) (kx : Int) Try.underlying9 (by omega) (by omega) (by omega)
    rw [hkx] at q4
    simpa [q4] using this
  have sx : (x : Int) + (X.size : Int) = (kx : Int) := by omega
  have sy : (y : Int) + (Y.size : Int) = (ky : Int) := by omega
  have sxw : IntKind.i64.wrap ((x : Int) + (X.size : Int)) = (kx : Int) := by rw [IntKind.wrap_i64]; omega
  have syw : IntKind.i64.wrap ((y : Int) + (Y.size : Int)) = (ky : Int) := by rw [IntKind.wrap_i64]; omega
  have mx : min (kx : Int) 1024 = (kx : Int) := by omega
  have my : min (ky : Int) 1024 = (ky : Int) := by omega
  have HS := Lib.hid (And.intro slB (And.intro slC (And.intro sx (And.intro sy (And.intro sxw (And.intro syw (And.intro mx my)))))))
  have hbytes : ∀ k, k < 1024 → ¬ (x ≤ k ∧ k < kx) → ¬ (y ≤ k ∧ k < ky) → ∃ d : UInt8, (∀ W, (Instr.index 9 (.string B) (.int .i64 (k : Int))).run Try.prog W = .ok (.int .u8 (d.toNat : Int)) W) ∧ (∀ W, (Instr.index 9 (.string A) (.int .i64 (k : Int))).run Try.prog W = .ok (.int .u8 (d.toNat : Int)) W) := fun k hk h1 h2 =>
    ⟨A.data.toList.getD k 0, text_at B k (by omega) _ (p5 k (by omega) (by omega) (by omega)), text_at A k (by omega) _ rfl⟩
  have HBY := Lib.hid hbytes
  have hap : (kx ≤ y ∨ ky ≤ x) → B = C := fun h => hsw (by omega)
  have HAP := Lib.hid hap
  have hBs : (B.size : Int) = 1024 := by omega
  have hCs : (C.size : Int) = 1024 := by omega
  have HBC := Lib.hid (And.intro hBs hCs)
  have i1 : (x : Int) ≤ 1024 := by omega
  have i2 : (y : Int) ≤ 1024 := by omega
  have i3 : (kx : Int) ≤ 1024 := by omega
  have i4 : (ky : Int) ≤ 1024 := by omega
  have i5 : (X.size : Int) ≤ 1024 := by omega
  have i6 : (Y.size : Int) ≤ 1024 := by omega
  have i7 : x < kx := by omega
  have i8 : y < ky := by omega
  clear hx hy hpg hB hC hm1 hm2 hsB hsC slB slC sx sy sxw syw mx my hbytes hap hBs hCs hsw p1 p2 p3 p4 p5 p6 q1 q2 q3 q4 q5 q6 hpA sA hf ht b0 b1 b2 b3 c0 c1 c2 c3 hkx hky
  go_enter Try.func5, Try.ntmps5
  go_wp2_with fail
  generalize (w.alloc (.cells #[.int .i64 (x : Int), .string X] 34)).alloc (.cells #[.int .i64 (y : Int), .string Y] 34) = W0 at *
  refine (H.out.1 _).mono ?_
  rintro e w1 ⟨rfl, f1⟩
  have F1 := Lib.hid (And.intro (f1.out HF.out.1 (by simp)) (HF.out.2.to f1))
  clear f1
  have c0 := cell_of F1.out.2.x 0
  have c1 := cell_of F1.out.2.x 1
  go_wp2_with fail
  refine (H.out.2.2.2.1 _).mono ?_
  rintro e w2 ⟨rfl, f2⟩
  have F2 := Lib.hid (And.intro (f2.out F1.out.1 (by simp)) (F1.out.2.to f2))
  clear f2 c0 c1
  have d0 := cell_of F2.out.2.y 0
  have d1 := cell_of F2.out.2.y 1
  go_wp2_with fail
  refine (H.out.2.2.2.2.1 _).mono ?_
  rintro e w3 ⟨rfl, f3⟩
  have F3 := Lib.hid (And.intro (f3.out F2.out.1 (by simp)) (F2.out.2.to f3))
  clear f3 d0 d1
  have c0 := cell_of F3.out.2.x 0
  have c1 := cell_of F3.out.2.x 1
  have d0 := cell_of F3.out.2.y 0
  have d1 := cell_of F3.out.2.y 1
  go_wp2_with fail
  clear c0 c1 d0 d1
  refine (H.out.2.1 _ _ _ (H.out.2.2.2.2.2.1 _)).mono ?_
  rintro e w4 ⟨rfl, f4⟩
  have F4 := Lib.hid (And.intro (f4.out ((Fr.alloc [] w3 _).out F3.out.1 (by simp)) (by simp)) ((F3.out.2.to (Fr.alloc [] w3 _)).to f4))
  clear f4
  have c0 := cell_of F4.out.2.x 0
  have c1 := cell_of F4.out.2.x 1
  have d0 := cell_of F4.out.2.y 0
  have d1 := cell_of F4.out.2.y 1
  go_wp2_with fail
  clear c0 c1 d0 d1
  refine (H.out.2.2.1 _ _ _ (H.out.2.2.2.2.2.2 _)).mono ?_
  rintro e w5 ⟨rfl, f5⟩
  have F5 := Lib.hid (And.intro (f5.out ((Fr.alloc [] w4 _).out F4.out.1 (by simp)) (by simp)) ((F4.out.2.to (Fr.alloc [] w4 _)).to f5))
  clear f5
  have c0 := cell_of F5.out.2.x 0
  have c1 := cell_of F5.out.2.x 1
  have d0 := cell_of F5.out.2.y 0
  have d1 := cell_of F5.out.2.y 1
  obtain ⟨hBs, hCs⟩ := HBC.out
  have hcase : (kx ≤ y ∨ (y < kx ∧ ky ≤ x)) ∨ (y < kx ∧ x < ky) := by omega
  rcases hcase with (hp | ⟨hp1, hp2⟩) | ⟨hp1, hp2⟩
  · obtain hBC : B = C := HAP.out (.inl hp)
    subst hBC
    have q1 : decide (kx ≤ y) = true := decide_eq_true hp
    have sx := HS.out.2.2.1
    have sy := HS.out.2.2.2.1
    go_wp2_with fail
    obtain ⟨slB, slC, sx, sy, sxw, syw, mx, my⟩ := HS.out
    go_quiet (fail)
    have F6 := Lib.hid (And.intro ((Fr.drewN [] w5 nq).out F5.out.1 (by simp)) (F5.out.2.to (Fr.drewN [] w5 nq)))
    clear slB slC sx sy sxw syw mx my c0 c1 d0 d1
    generalize w5.drewN nq = W6 at *
    go_wp2_with fail
    go_loopw [18] (fun i wr => ∃ k : Nat, k ≤ 1024 ∧ i = .int .i64 k ∧ Below w.heap.size w wr ∧ Two wr w.heap.size x X y Y) (fun i _ => 1024 - (intOf i).toNat)
    case atStart => exact ⟨0, by omega, rfl, F6.out.1, F6.out.2⟩
    case round =>
      obtain ⟨k, hk, rfl, hB', hT⟩ := hrel
      have HT := Lib.hid (And.intro hB' hT)
      have c0 := cell_of hT.x 0
      have c1 := cell_of hT.x 1
      have d0 := cell_of hT.y 0
      have d1 := cell_of hT.y 1
      clear hB' hT
      by_cases hk2 : k < 1024
      · have hki : (k : Int) < 1024 := by omega
        have hk0 : 0 ≤ (k : Int) := by omega
        have sx := HS.out.2.2.1
        have sy := HS.out.2.2.2.1
        by_cases hin : (x ≤ k ∧ k < kx) ∨ (y ≤ k ∧ k < ky)
        · have hin2 : (x ≤ k ∧ k < kx) ∨ (k < x ∧ y ≤ k ∧ k < ky) ∨ (x ≤ k ∧ kx ≤ k ∧ y ≤ k ∧ k < ky) := by omega
          clear hin
          rcases hin2 with ⟨e1, e2⟩ | ⟨e1, e2, e3⟩ | ⟨e1, e2, e3, e4⟩
          · first
            | (exfalso; omega)
            | (have q1 : decide (x ≤ k) = true := decide_eq_true e1
               have q2 : decide (k < kx) = true := decide_eq_true e2
               go_wp2_with fail
               go_quiet (fail)
               have HT2 := Lib.hid (And.intro ((Fr.drewN [] wr nq).out HT.out.1 (by simp)) (HT.out.2.to (Fr.drewN [] wr nq)))
               clear c0 c1 d0 d1
               generalize wr.drewN nq = W7 at *
               go_wp2_with fail
               go_roundw
               case rel => exact ⟨k + 1, by omega, by go_num, HT2.out.1, HT2.out.2⟩
               case measure => simp [intOf]; omega)
          · first
            | (exfalso; omega)
            | (have q1 : decide (x ≤ k) = false := decide_eq_false (by omega)
               have q3 : decide (y ≤ k) = true := decide_eq_true e2
               have q4 : decide (k < ky) = true := decide_eq_true e3
               go_wp2_with fail
               go_quiet (fail)
               have HT2 := Lib.hid (And.intro ((Fr.drewN [] wr nq).out HT.out.1 (by simp)) (HT.out.2.to (Fr.drewN [] wr nq)))
               clear c0 c1 d0 d1
               generalize wr.drewN nq = W7 at *
               go_wp2_with fail
               go_roundw
               case rel => exact ⟨k + 1, by omega, by go_num, HT2.out.1, HT2.out.2⟩
               case measure => simp [intOf]; omega)
          · first
            | (exfalso; omega)
            | (have q1 : decide (x ≤ k) = true := decide_eq_true e1
               have q2 : decide (k < kx) = false := decide_eq_false (by omega)
               have q3 : decide (y ≤ k) = true := decide_eq_true e3
               have q4 : decide (k < ky) = true := decide_eq_true e4
               go_wp2_with fail
               go_quiet (fail)
               have HT2 := Lib.hid (And.intro ((Fr.drewN [] wr nq).out HT.out.1 (by simp)) (HT.out.2.to (Fr.drewN [] wr nq)))
               clear c0 c1 d0 d1
               generalize wr.drewN nq = W7 at *
               go_wp2_with fail
               go_roundw
               case rel => exact ⟨k + 1, by omega, by go_num, HT2.out.1, HT2.out.2⟩
               case measure => simp [intOf]; omega)
        · obtain ⟨d, hx1, hx2⟩ := HBY.out k hk2 (by omega) (by omega)
          have hout : (k < x ∧ k < y) ∨ (k < x ∧ ky ≤ k ∧ y ≤ k) ∨ (kx ≤ k ∧ x ≤ k ∧ k < y) ∨ (kx ≤ k ∧ x ≤ k ∧ ky ≤ k ∧ y ≤ k) := by omega
          have HXX := Lib.hid (And.intro hx1 hx2)
          clear hin hx1 hx2
          rcases hout with ⟨e1, e2⟩ | ⟨e1, e2, e3⟩ | ⟨e1, e2, e3⟩ | ⟨e1, e2, e3, e4⟩
          · first
            | (exfalso; omega)
            | (have q1 : decide (x ≤ k) = false := decide_eq_false (by omega)
               have q3 : decide (y ≤ k) = false := decide_eq_false (by omega)
               go_wp2_with fail
               obtain ⟨hx1, hx2⟩ := HXX.out
               go_quiet (fail)
               have HT2 := Lib.hid (And.intro ((Fr.drewN [] wr nq).out HT.out.1 (by simp)) (HT.out.2.to (Fr.drewN [] wr nq)))
               clear c0 c1 d0 d1 hx1 hx2
               generalize wr.drewN nq = W7 at *
               go_wp2_with fail
               go_roundw
               case rel => exact ⟨k + 1, by omega, by go_num, HT2.out.1, HT2.out.2⟩
               case measure => simp [intOf]; omega)
          · first
            | (exfalso; omega)
            | (have q1 : decide (x ≤ k) = false := decide_eq_false (by omega)
               have q3 : decide (y ≤ k) = true := decide_eq_true (by omega)
               have q4 : decide (k < ky) = false := decide_eq_false (by omega)
               go_wp2_with fail
               obtain ⟨hx1, hx2⟩ := HXX.out
               go_quiet (fail)
               have HT2 := Lib.hid (And.intro ((Fr.drewN [] wr nq).out HT.out.1 (by simp)) (HT.out.2.to (Fr.drewN [] wr nq)))
               clear c0 c1 d0 d1 hx1 hx2
               generalize wr.drewN nq = W7 at *
               go_wp2_with fail
               go_roundw
               case rel => exact ⟨k + 1, by omega, by go_num, HT2.out.1, HT2.out.2⟩
               case measure => simp [intOf]; omega)
          · first
            | (exfalso; omega)
            | (have q1 : decide (x ≤ k) = true := decide_eq_true (by omega)
               have q2 : decide (k < kx) = false := decide_eq_false (by omega)
               have q3 : decide (y ≤ k) = false := decide_eq_false (by omega)
               go_wp2_with fail
               obtain ⟨hx1, hx2⟩ := HXX.out
               go_quiet (fail)
               have HT2 := Lib.hid (And.intro ((Fr.drewN [] wr nq).out HT.out.1 (by simp)) (HT.out.2.to (Fr.drewN [] wr nq)))
               clear c0 c1 d0 d1 hx1 hx2
               generalize wr.drewN nq = W7 at *
               go_wp2_with fail
               go_roundw
               case rel => exact ⟨k + 1, by omega, by go_num, HT2.out.1, HT2.out.2⟩
               case measure => simp [intOf]; omega)
          · first
            | (exfalso; omega)
            | (have q1 : decide (x ≤ k) = true := decide_eq_true (by omega)
               have q2 : decide (k < kx) = false := decide_eq_false (by omega)
               have q3 : decide (y ≤ k) = true := decide_eq_true (by omega)
               have q4 : decide (k < ky) = false := decide_eq_false (by omega)
               go_wp2_with fail
               obtain ⟨hx1, hx2⟩ := HXX.out
               go_quiet (fail)
               have HT2 := Lib.hid (And.intro ((Fr.drewN [] wr nq).out HT.out.1 (by simp)) (HT.out.2.to (Fr.drewN [] wr nq)))
               clear c0 c1 d0 d1 hx1 hx2
               generalize wr.drewN nq = W7 at *
               go_wp2_with fail
               go_roundw
               case rel => exact ⟨k + 1, by omega, by go_num, HT2.out.1, HT2.out.2⟩
               case measure => simp [intOf]; omega)
      · have hke : k = 1024 := by omega
        subst hke
        clear c0 c1 d0 d1
        go_wp2_with fail
        refine (alive_any _).mono ?_
        rintro e w8 ⟨rfl, f8⟩
        go_wp2_with fail
        go_ret
        exact ⟨rfl, f8.out HT.out.1 (by simp)⟩
  · obtain hBC : B = C := HAP.out (.inr hp2)
    subst hBC
    have q1 : decide (kx ≤ y) = false := decide_eq_false (by omega)
    have q2 : decide (ky ≤ x) = true := decide_eq_true hp2
    have sx := HS.out.2.2.1
    have sy := HS.out.2.2.2.1
    go_wp2_with fail
    obtain ⟨slB, slC, sx, sy, sxw, syw, mx, my⟩ := HS.out
    go_quiet (fail)
    have F6 := Lib.hid (And.intro ((Fr.drewN [] w5 nq).out F5.out.1 (by simp)) (F5.out.2.to (Fr.drewN [] w5 nq)))
    clear slB slC sx sy sxw syw mx my c0 c1 d0 d1
    generalize w5.drewN nq = W6 at *
    go_wp2_with fail
    go_loopw [18] (fun i wr => ∃ k : Nat, k ≤ 1024 ∧ i = .int .i64 k ∧ Below w.heap.size w wr ∧ Two wr w.heap.size x X y Y) (fun i _ => 1024 - (intOf i).toNat)
    case atStart => exact ⟨0, by omega, rfl, F6.out.1, F6.out.2⟩
    case round =>
      obtain ⟨k, hk, rfl, hB', hT⟩ := hrel
      have HT := Lib.hid (And.intro hB' hT)
      have c0 := cell_of hT.x 0
      have c1 := cell_of hT.x 1
      have d0 := cell_of hT.y 0
      have d1 := cell_of hT.y 1
      clear hB' hT
      by_cases hk2 : k < 1024
      · have hki : (k : Int) < 1024 := by omega
        have hk0 : 0 ≤ (k : Int) := by omega
        have sx := HS.out.2.2.1
        have sy := HS.out.2.2.2.1
        by_cases hin : (x ≤ k ∧ k < kx) ∨ (y ≤ k ∧ k < ky)
        · have hin2 : (x ≤ k ∧ k < kx) ∨ (k < x ∧ y ≤ k ∧ k < ky) ∨ (x ≤ k ∧ kx ≤ k ∧ y ≤ k ∧ k < ky) := by omega
          clear hin
          rcases hin2 with ⟨e1, e2⟩ | ⟨e1, e2, e3⟩ | ⟨e1, e2, e3, e4⟩
          · first
            | (exfalso; omega)
            | (have q1 : decide (x ≤ k) = true := decide_eq_true e1
               have q2 : decide (k < kx) = true := decide_eq_true e2
               go_wp2_with fail
               go_quiet (fail)
               have HT2 := Lib.hid (And.intro ((Fr.drewN [] wr nq).out HT.out.1 (by simp)) (HT.out.2.to (Fr.drewN [] wr nq)))
               clear c0 c1 d0 d1
               generalize wr.drewN nq = W7 at *
               go_wp2_with fail
               go_roundw
               case rel => exact ⟨k + 1, by omega, by go_num, HT2.out.1, HT2.out.2⟩
               case measure => simp [intOf]; omega)
          · first
            | (exfalso; omega)
            | (have q1 : decide (x ≤ k) = false := decide_eq_false (by omega)
               have q3 : decide (y ≤ k) = true := decide_eq_true e2
               have q4 : decide (k < ky) = true := decide_eq_true e3
               go_wp2_with fail
               go_quiet (fail)
               have HT2 := Lib.hid (And.intro ((Fr.drewN [] wr nq).out HT.out.1 (by simp)) (HT.out.2.to (Fr.drewN [] wr nq)))
               clear c0 c1 d0 d1
               generalize wr.drewN nq = W7 at *
               go_wp2_with fail
               go_roundw
               case rel => exact ⟨k + 1, by omega, by go_num, HT2.out.1, HT2.out.2⟩
               case measure => simp [intOf]; omega)
          · first
            | (exfalso; omega)
            | (have q1 : decide (x ≤ k) = true := decide_eq_true e1
               have q2 : decide (k < kx) = false := decide_eq_false (by omega)
               have q3 : decide (y ≤ k) = true := decide_eq_true e3
               have q4 : decide (k < ky) = true := decide_eq_true e4
               go_wp2_with fail
               go_quiet (fail)
               have HT2 := Lib.hid (And.intro ((Fr.drewN [] wr nq).out HT.out.1 (by simp)) (HT.out.2.to (Fr.drewN [] wr nq)))
               clear c0 c1 d0 d1
               generalize wr.drewN nq = W7 at *
               go_wp2_with fail
               go_roundw
               case rel => exact ⟨k + 1, by omega, by go_num, HT2.out.1, HT2.out.2⟩
               case measure => simp [intOf]; omega)
        · obtain ⟨d, hx1, hx2⟩ := HBY.out k hk2 (by omega) (by omega)
          have hout : (k < x ∧ k < y) ∨ (k < x ∧ ky ≤ k ∧ y ≤ k) ∨ (kx ≤ k ∧ x ≤ k ∧ k < y) ∨ (kx ≤ k ∧ x ≤ k ∧ ky ≤ k ∧ y ≤ k) := by omega
          have HXX := Lib.hid (And.intro hx1 hx2)
          clear hin hx1 hx2
          rcases hout with ⟨e1, e2⟩ | ⟨e1, e2, e3⟩ | ⟨e1, e2, e3⟩ | ⟨e1, e2, e3, e4⟩
          · first
            | (exfalso; omega)
            | (have q1 : decide (x ≤ k) = false := decide_eq_false (by omega)
               have q3 : decide (y ≤ k) = false := decide_eq_false (by omega)
               go_wp2_with fail
               obtain ⟨hx1, hx2⟩ := HXX.out
               go_quiet (fail)
               have HT2 := Lib.hid (And.intro ((Fr.drewN [] wr nq).out HT.out.1 (by simp)) (HT.out.2.to (Fr.drewN [] wr nq)))
               clear c0 c1 d0 d1 hx1 hx2
               generalize wr.drewN nq = W7 at *
               go_wp2_with fail
               go_roundw
               case rel => exact ⟨k + 1, by omega, by go_num, HT2.out.1, HT2.out.2⟩
               case measure => simp [intOf]; omega)
          · first
            | (exfalso; omega)
            | (have q1 : decide (x ≤ k) = false := decide_eq_false (by omega)
               have q3 : decide (y ≤ k) = true := decide_eq_true (by omega)
               have q4 : decide (k < ky) = false := decide_eq_false (by omega)
               go_wp2_with fail
               obtain ⟨hx1, hx2⟩ := HXX.out
               go_quiet (fail)
               have HT2 := Lib.hid (And.intro ((Fr.drewN [] wr nq).out HT.out.1 (by simp)) (HT.out.2.to (Fr.drewN [] wr nq)))
               clear c0 c1 d0 d1 hx1 hx2
               generalize wr.drewN nq = W7 at *
               go_wp2_with fail
               go_roundw
               case rel => exact ⟨k + 1, by omega, by go_num, HT2.out.1, HT2.out.2⟩
               case measure => simp [intOf]; omega)
          · first
            | (exfalso; omega)
            | (have q1 : decide (x ≤ k) = true := decide_eq_true (by omega)
               have q2 : decide (k < kx) = false := decide_eq_false (by omega)
               have q3 : decide (y ≤ k) = false := decide_eq_false (by omega)
               go_wp2_with fail
               obtain ⟨hx1, hx2⟩ := HXX.out
               go_quiet (fail)
               have HT2 := Lib.hid (And.intro ((Fr.drewN [] wr nq).out HT.out.1 (by simp)) (HT.out.2.to (Fr.drewN [] wr nq)))
               clear c0 c1 d0 d1 hx1 hx2
               generalize wr.drewN nq = W7 at *
               go_wp2_with fail
               go_roundw
               case rel => exact ⟨k + 1, by omega, by go_num, HT2.out.1, HT2.out.2⟩
               case measure => simp [intOf]; omega)
          · first
            | (exfalso; omega)
            | (have q1 : decide (x ≤ k) = true := decide_eq_true (by omega)
               have q2 : decide (k < kx) = false := decide_eq_false (by omega)
               have q3 : decide (y ≤ k) = true := decide_eq_true (by omega)
               have q4 : decide (k < ky) = false := decide_eq_false (by omega)
               go_wp2_with fail
               obtain ⟨hx1, hx2⟩ := HXX.out
               go_quiet (fail)
               have HT2 := Lib.hid (And.intro ((Fr.drewN [] wr nq).out HT.out.1 (by simp)) (HT.out.2.to (Fr.drewN [] wr nq)))
               clear c0 c1 d0 d1 hx1 hx2
               generalize wr.drewN nq = W7 at *
               go_wp2_with fail
               go_roundw
               case rel => exact ⟨k + 1, by omega, by go_num, HT2.out.1, HT2.out.2⟩
               case measure => simp [intOf]; omega)
      · have hke : k = 1024 := by omega
        subst hke
        clear c0 c1 d0 d1
        go_wp2_with fail
        refine (alive_any _).mono ?_
        rintro e w8 ⟨rfl, f8⟩
        go_wp2_with fail
        go_ret
        exact ⟨rfl, f8.out HT.out.1 (by simp)⟩
  · have q1 : decide (kx ≤ y) = false := decide_eq_false (by omega)
    have q2 : decide (ky ≤ x) = false := decide_eq_false (by omega)
    have sx := HS.out.2.2.1
    have sy := HS.out.2.2.2.1
    go_wp2_with fail
    obtain ⟨slB, slC, sx, sy, sxw, syw, mx, my⟩ := HS.out
    go_quiet (fail)
    have F6 := Lib.hid (And.intro ((Fr.drewN [] w5 nq).out F5.out.1 (by simp)) (F5.out.2.to (Fr.drewN [] w5 nq)))
    clear slB slC sx sy sxw syw mx my c0 c1 d0 d1
    generalize w5.drewN nq = W6 at *
    go_wp2_with fail
    go_loopw [18] (fun i wr => ∃ k : Nat, k ≤ 1024 ∧ i = .int .i64 k ∧ Below w.heap.size w wr ∧ Two wr w.heap.size x X y Y) (fun i _ => 1024 - (intOf i).toNat)
    case atStart => exact ⟨0, by omega, rfl, F6.out.1, F6.out.2⟩
    case round =>
      obtain ⟨k, hk, rfl, hB', hT⟩ := hrel
      have HT := Lib.hid (And.intro hB' hT)
      have c0 := cell_of hT.x 0
      have c1 := cell_of hT.x 1
      have d0 := cell_of hT.y 0
      have d1 := cell_of hT.y 1
      clear hB' hT
      by_cases hk2 : k < 1024
      · have hki : (k : Int) < 1024 := by omega
        have hk0 : 0 ≤ (k : Int) := by omega
        have sx := HS.out.2.2.1
        have sy := HS.out.2.2.2.1
        by_cases hin : (x ≤ k ∧ k < kx) ∨ (y ≤ k ∧ k < ky)
        · have hin2 : (x ≤ k ∧ k < kx) ∨ (k < x ∧ y ≤ k ∧ k < ky) ∨ (x ≤ k ∧ kx ≤ k ∧ y ≤ k ∧ k < ky) := by omega
          clear hin
          rcases hin2 with ⟨e1, e2⟩ | ⟨e1, e2, e3⟩ | ⟨e1, e2, e3, e4⟩
          · first
            | (exfalso; omega)
            | (have q1 : decide (x ≤ k) = true := decide_eq_true e1
               have q2 : decide (k < kx) = true := decide_eq_true e2
               go_wp2_with fail
               go_quiet (fail)
               have HT2 := Lib.hid (And.intro ((Fr.drewN [] wr nq).out HT.out.1 (by simp)) (HT.out.2.to (Fr.drewN [] wr nq)))
               clear c0 c1 d0 d1
               generalize wr.drewN nq = W7 at *
               go_wp2_with fail
               go_roundw
               case rel => exact ⟨k + 1, by omega, by go_num, HT2.out.1, HT2.out.2⟩
               case measure => simp [intOf]; omega)
          · first
            | (exfalso; omega)
            | (have q1 : decide (x ≤ k) = false := decide_eq_false (by omega)
               have q3 : decide (y ≤ k) = true := decide_eq_true e2
               have q4 : decide (k < ky) = true := decide_eq_true e3
               go_wp2_with fail
               go_quiet (fail)
               have HT2 := Lib.hid (And.intro ((Fr.drewN [] wr nq).out HT.out.1 (by simp)) (HT.out.2.to (Fr.drewN [] wr nq)))
               clear c0 c1 d0 d1
               generalize wr.drewN nq = W7 at *
               go_wp2_with fail
               go_roundw
               case rel => exact ⟨k + 1, by omega, by go_num, HT2.out.1, HT2.out.2⟩
               case measure => simp [intOf]; omega)
          · first
            | (exfalso; omega)
            | (have q1 : decide (x ≤ k) = true := decide_eq_true e1
               have q2 : decide (k < kx) = false := decide_eq_false (by omega)
               have q3 : decide (y ≤ k) = true := decide_eq_true e3
               have q4 : decide (k < ky) = true := decide_eq_true e4
               go_wp2_with fail
               go_quiet (fail)
               have HT2 := Lib.hid (And.intro ((Fr.drewN [] wr nq).out HT.out.1 (by simp)) (HT.out.2.to (Fr.drewN [] wr nq)))
               clear c0 c1 d0 d1
               generalize wr.drewN nq = W7 at *
               go_wp2_with fail
               go_roundw
               case rel => exact ⟨k + 1, by omega, by go_num, HT2.out.1, HT2.out.2⟩
               case measure => simp [intOf]; omega)
        · obtain ⟨d, hx1, hx2⟩ := HBY.out k hk2 (by omega) (by omega)
          have hout : (k < x ∧ k < y) ∨ (k < x ∧ ky ≤ k ∧ y ≤ k) ∨ (kx ≤ k ∧ x ≤ k ∧ k < y) ∨ (kx ≤ k ∧ x ≤ k ∧ ky ≤ k ∧ y ≤ k) := by omega
          have HXX := Lib.hid (And.intro hx1 hx2)
          clear hin hx1 hx2
          rcases hout with ⟨e1, e2⟩ | ⟨e1, e2, e3⟩ | ⟨e1, e2, e3⟩ | ⟨e1, e2, e3, e4⟩
          · first
            | (exfalso; omega)
            | (have q1 : decide (x ≤ k) = false := decide_eq_false (by omega)
               have q3 : decide (y ≤ k) = false := decide_eq_false (by omega)
               go_wp2_with fail
               obtain ⟨hx1, hx2⟩ := HXX.out
               go_quiet (fail)
               have HT2 := Lib.hid (And.intro ((Fr.drewN [] wr nq).out HT.out.1 (by simp)) (HT.out.2.to (Fr.drewN [] wr nq)))
               clear c0 c1 d0 d1 hx1 hx2
               generalize wr.drewN nq = W7 at *
               go_wp2_with fail
               go_roundw
               case rel => exact ⟨k + 1, by omega, by go_num, HT2.out.1, HT2.out.2⟩
               case measure => simp [intOf]; omega)
          · first
            | (exfalso; omega)
            | (have q1 : decide (x ≤ k) = false := decide_eq_false (by omega)
               have q3 : decide (y ≤ k) = true := decide_eq_true (by omega)
               have q4 : decide (k < ky) = false := decide_eq_false (by omega)
               go_wp2_with fail
               obtain ⟨hx1, hx2⟩ := HXX.out
               go_quiet (fail)
               have HT2 := Lib.hid (And.intro ((Fr.drewN [] wr nq).out HT.out.1 (by simp)) (HT.out.2.to (Fr.drewN [] wr nq)))
               clear c0 c1 d0 d1 hx1 hx2
               generalize wr.drewN nq = W7 at *
               go_wp2_with fail
               go_roundw
               case rel => exact ⟨k + 1, by omega, by go_num, HT2.out.1, HT2.out.2⟩
               case measure => simp [intOf]; omega)
          · first
            | (exfalso; omega)
            | (have q1 : decide (x ≤ k) = true := decide_eq_true (by omega)
               have q2 : decide (k < kx) = false := decide_eq_false (by omega)
               have q3 : decide (y ≤ k) = false := decide_eq_false (by omega)
               go_wp2_with fail
               obtain ⟨hx1, hx2⟩ := HXX.out
               go_quiet (fail)
               have HT2 := Lib.hid (And.intro ((Fr.drewN [] wr nq).out HT.out.1 (by simp)) (HT.out.2.to (Fr.drewN [] wr nq)))
               clear c0 c1 d0 d1 hx1 hx2
               generalize wr.drewN nq = W7 at *
               go_wp2_with fail
               go_roundw
               case rel => exact ⟨k + 1, by omega, by go_num, HT2.out.1, HT2.out.2⟩
               case measure => simp [intOf]; omega)
          · first
            | (exfalso; omega)
            | (have q1 : decide (x ≤ k) = true := decide_eq_true (by omega)
               have q2 : decide (k < kx) = false := decide_eq_false (by omega)
               have q3 : decide (y ≤ k) = true := decide_eq_true (by omega)
               have q4 : decide (k < ky) = false := decide_eq_false (by omega)
               go_wp2_with fail
               obtain ⟨hx1, hx2⟩ := HXX.out
               go_quiet (fail)
               have HT2 := Lib.hid (And.intro ((Fr.drewN [] wr nq).out HT.out.1 (by simp)) (HT.out.2.to (Fr.drewN [] wr nq)))
               clear c0 c1 d0 d1 hx1 hx2
               generalize wr.drewN nq = W7 at *
               go_wp2_with fail
               go_roundw
               case rel => exact ⟨k + 1, by omega, by go_num, HT2.out.1, HT2.out.2⟩
               case measure => simp [intOf]; omega)
      · have hke : k = 1024 := by omega
        subst hke
        clear c0 c1 d0 d1
        go_wp2_with fail
        refine (alive_any _).mono ?_
        rintro e w8 ⟨rfl, f8⟩
        go_wp2_with fail
        go_ret
        exact ⟨rfl, f8.out HT.out.1 (by simp)⟩
end Go.Proofs.Ytoicdepkakgedaa
