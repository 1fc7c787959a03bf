/- The statement ModsEither: the walk of its Go function. -/
import Derived.Test.YtoicdepkakgedaaMt
import Derived.Lib.SmallJoins
namespace Go.Proofs.Ytoicdepkakgedaa
open Go.RowKit
set_option linter.unusedVariables false
set_option linter.unusedSimpArgs false

open Go.ChangeShapes Go.WideShapes Go.Deep in
theorem open_mdv {H : Type} {henc : TypeId × Value → H} {w : World} {v : Value} {d : DataW H} {ps : List MemPlace} {b0 : Nat} {r : Reach}
    (hval : Value.okWide Try.prog w r b0 34 v) (hd : DataW.Trod henc Try.prog w 0 (fun _ => true) true 34 v d ps) :
    ∃ (x : Int) (s : ByteArray), v = .agg #[.int .i64 x, .string s] ∧ d = .agg [.lit (.int .i64 x), .lit (.string s.data.toList)] ∧ ps = [] ∧ (Lit.int .i64 x).wf = true ∧ s.size ≤ maxLen := by
  obtain ⟨v0, v1, y0, y1, n, rfl, rfl, rfl, t0, t1⟩ := Joins.open_agg2 Try.underlying34 (by kernel_rfl) (by kernel_rfl) hval hd
  obtain ⟨n0, e0, g0, g0'⟩ := DataW.trod_int Try.underlying3 t0
  obtain ⟨n1, e1, g1, g1'⟩ := DataW.trod_string Try.underlying9 t1
  simp only [List.cons.injEq, and_true] at e0 e1
  subst e0 e1 g0 g1
  exact ⟨n0, n1, rfl, rfl, rfl, g0', g1'⟩
open Go.ChangeShapes Go.WideShapes Go.Deep in
theorem shut_mdv {H : Type} {henc : TypeId × Value → H} {w : World} {b : Nat} {sp : Nat → Bool} {hl : Bool} {x : Int} {s : ByteArray} (hw : (Lit.int .i64 x).wf = true) (hs : s.size ≤ maxLen) :
    DataW.Trod henc Try.prog w b sp hl 34 (.agg #[.int .i64 x, .string s]) (.agg [.lit (.int .i64 x), .lit (.string s.data.toList)]) [] := by
  have := Joins.shut_agg2 (enc := henc) (w := w) (base := b) (spare := sp) (held := hl) (v0 := .int .i64 x) (v1 := .string s) (y0 := (.lit (.int .i64 x), [])) (y1 := (.lit (.string s.data.toList), [])) Try.underlying34 (by kernel_rfl) (by kernel_rfl)
    ⟨1, by simp [DataW.trod, Try.underlying3, hw]⟩ ⟨1, by simp [DataW.trod, Try.underlying9, hs]⟩
  exact this

/-! ### two modifications -/
theorem put_take (t : List UInt8) (a : Nat) (x : List UInt8) (h : a + x.length ≤ t.length) : ((putAt t a x).drop a).take x.length = x := by
  unfold putAt
  have ht : (t.take a).length = a := by rw [List.length_take]; omega
  rw [List.drop_left' ht, List.take_left' rfl]
theorem put_swap (t : List UInt8) (a b : Nat) (x y : List UInt8) (hx : a + x.length ≤ t.length) (hy : b + y.length ≤ t.length) (h : a + x.length ≤ b ∨ b + y.length ≤ a) : putAt (putAt t a x) b y = putAt (putAt t b y) a x := by
  have l1 := putAt_length t a x hx
  have l2 := putAt_length t b y hy
  have l3 := putAt_length (putAt t a x) b y (by omega)
  have l4 := putAt_length (putAt t b y) a x (by omega)
  apply eq_of_getD _ _ (by omega)
  intro k hk
  rw [putAt_get _ b y k (by omega) (by omega), putAt_get _ a x k (by omega) (by omega), putAt_get _ a x k (by omega) (by omega), putAt_get _ b y k (by omega) (by omega)]
  by_cases h1 : b ≤ k ∧ k - b < y.length
  · have h2 : ¬ (a ≤ k ∧ k - a < x.length) := by omega
    rw [if_pos h1, if_neg h2, if_neg h2, if_pos h1]
  · rw [if_neg h1, if_neg h1]
/-- What two that may be make of a page. -/
theorem either_facts (A X Y : ByteArray) (x y : Nat) (hp : pageB A.size = true) (hx : mayB A.size ⟨(x : Int), X⟩ = true) (hy : mayB A.size ⟨(y : Int), Y⟩ = true) :
    ∃ B, appS A [⟨(x : Int), X⟩, ⟨(y : Int), Y⟩] = B ∧ appE A [⟨(x : Int), X⟩, ⟨(y : Int), Y⟩] = 0 ∧ B.size = A.size ∧ B.extract y (y + Y.size) = Y ∧
      (∀ k, k < A.size → ¬ (x ≤ k ∧ k < x + X.size) → ¬ (y ≤ k ∧ k < y + Y.size) → B.data.toList.getD k 0 = A.data.toList.getD k 0) ∧
      B.data.toList = putAt (putAt A.data.toList x X.data.toList) y Y.data.toList := by
  have hall : allB A.size [⟨(x : Int), X⟩, ⟨(y : Int), Y⟩] = true := by unfold allB; simp [hx, hy]
  obtain ⟨e1, e2⟩ := app_ok (t := A) (l := [⟨(x : Int), X⟩, ⟨(y : Int), Y⟩]) (by rw [hp, hall]; rfl)
  have hAl : A.data.toList.length = A.size := by simp
  have fx := mayB_fits hx
  have fy := mayB_fits hy
  simp only [Int.toNat_natCast] at fx fy
  have l1 := putAt_length A.data.toList x X.data.toList (by rw [hAl]; exact fx)
  have l2 := putAt_length (putAt A.data.toList x X.data.toList) y Y.data.toList (by rw [l1, hAl]; exact fy)
  have hd : (appS A [⟨(x : Int), X⟩, ⟨(y : Int), Y⟩]).data.toList = putAt (putAt A.data.toList x X.data.toList) y Y.data.toList := by rw [e1]; simp [applyL]
  refine ⟨_, rfl, e2, ?_, ?_, fun k hk h1 h2 => ?_, hd⟩
  · have := congrArg List.length hd
    rw [l2, l1, hAl] at this
    simpa using this
  · apply ByteArray.ext; apply Array.ext'
    rw [Lib.extract_data, hd]
    have := put_take (putAt A.data.toList x X.data.toList) y Y.data.toList (by rw [l1, hAl]; exact fy)
    rw [show y + Y.size - y = Y.data.toList.length by simp]
    exact this
  · rw [hd, putAt_get _ y _ k (by rw [l1, hAl]; exact fy) (by rw [l1, hAl]; exact hk), putAt_get _ x _ k (by rw [hAl]; exact fx) (by rw [hAl]; exact hk)]
    simp only [Array.length_toList, ByteArray.size_data] 
    rw [if_neg (by omega), if_neg (by omega)]
theorem either_swap (A X Y B C : ByteArray) (x y : Nat) (hp : pageB A.size = true) (hx : mayB A.size ⟨(x : Int), X⟩ = true) (hy : mayB A.size ⟨(y : Int), Y⟩ = true)
    (hB : B.data.toList = putAt (putAt A.data.toList x X.data.toList) y Y.data.toList) (hC : C.data.toList = putAt (putAt A.data.toList y Y.data.toList) x X.data.toList) (h : x + X.size ≤ y ∨ y + Y.size ≤ x) : B = C := by
  have fx := mayB_fits hx
  have fy := mayB_fits hy
  simp only [Int.toNat_natCast] at fx fy
  apply ByteArray.ext; apply Array.ext'
  rw [hB, hC]
  exact put_swap _ _ _ _ _ (by simpa using fx) (by simpa using fy) (by simpa using h)
end Go.Proofs.Ytoicdepkakgedaa
