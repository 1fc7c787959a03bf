/- Slices of whole numbers that come in, as lists. -/
import Derived.Test.YtmajacfcfdljeaaBa
import Derived.Test.YtmajacfcfdljeaaSl
import Derived.ChangeSlices
import Derived.OpenShut
namespace Go.Proofs.Ytmajacfcfdljeaa
open Go.RowKit
set_option linter.unusedVariables false
set_option linter.unusedSimpArgs false

/-- A whole number's cell, of an unsigned kind, of any kind. -/
def Un (k : IntKind) (n : Nat) : List Value := [.int k (n : Int)]
def Zn (k : IntKind) (n : Int) : List Value := [.int k n]
open Go.ChangeShapes Go.WideShapes Go.Deep in
theorem open_zs {H : Type} {henc : TypeId × Value → H} {P : Program} {w : World} {t e : TypeId} {k : IntKind} {v : Value} {d : DataW H} {ps : List MemPlace} {b0 : Nat} {r : Reach}
    (ht : P.underlying t = some (.slice e)) (he : P.underlying e = some (.int k)) (hC : P.cellsOf e = 1) (hval : Value.okWide P w r b0 t v) (hd : DataW.Trod henc P w 0 (fun _ => true) true t v d ps) :
    ∃ a0 cap, ∃ xs : List Int, v = .slice a0 xs.length cap ∧ xs.length ≤ maxLen ∧ SlOf (Zn k) 1 w a0 xs ∧ ∀ x, x ∈ xs → (Lit.int k x).wf = true := by
  obtain ⟨a0, len, cap, rfl⟩ := okWide_slice ht hval
  obtain ⟨fuel, hf⟩ := hd
  rcases open_ints ht he hC hf with ⟨hcs, hx⟩ | ⟨a, len', cap', zs, hcs, _, hl, hm, hz, hx, hi, hw⟩
  · simp [Value.cells] at hcs
    obtain ⟨rfl, rfl, rfl⟩ := hcs
    exact ⟨none, 0, [], rfl, by simp [maxLen], fun h => absurd rfl h, fun x hx => by cases hx⟩
  · simp [Value.cells] at hcs
    obtain ⟨rfl, rfl, rfl⟩ := hcs
    have hzl : zs.length = cap := by simpa using hz
    have htl : (zs.take len).length = len := by rw [List.length_take]; omega
    refine ⟨some a, cap, zs.take len, by rw [htl], by rw [htl]; omega, fun hne => ?_, fun x hx => hw x (List.mem_of_mem_take hx)⟩
    have hpos : 0 < len := by
      rcases Nat.eq_zero_or_pos len with h | h
      · exact absurd (by rw [h]; rfl) hne
      · exact h
    have h0 := hi 0 (by omega)
    have hlt := block_lt_of_cell h0
    obtain ⟨b, o, sp⟩ := a
    have hsp : sp = none := by
      cases sp with
      | none => rfl
      | some s =>
        simp [Addr.add, World.cell?] at h0
        split at h0 <;> simp_all
    subst hsp
    refine ⟨b, o, rfl, by simpa [Addr.add] using hlt, fun i x hi' j u hu => ?_⟩
    have hj : j = 0 := by
      have := (List.getElem?_eq_some_iff.1 hu).1
      simp [Zn] at this
      exact this
    subst hj
    have hil := (List.getElem?_eq_some_iff.1 hi').1
    rw [htl] at hil
    have := hi i (by omega)
    rw [add_none] at this
    simp [Zn] at hu
    subst hu
    rw [Nat.mul_one, Nat.add_zero, this]
    rw [List.getElem?_take_of_lt hil] at hi'
    simp [List.getD, hi']
theorem nat_row {k : IntKind} {w : World} {a0 : Option Addr} {xs : List Int} (h : SlOf (Zn k) 1 w a0 xs) (hx : ∀ x ∈ xs, 0 ≤ x) : SlOf (Un k) 1 w a0 (xs.map Int.toNat) := fun hne => by
  obtain ⟨b, o, h1, h2, h3⟩ := h (by intro e; rw [e] at hne; exact hne rfl)
  refine ⟨b, o, h1, h2, fun i x hi j u hu => ?_⟩
  rw [List.getElem?_map, Option.map_eq_some_iff] at hi
  obtain ⟨y, hy, rfl⟩ := hi
  refine h3 i y hy j u ?_
  have := hx y (List.mem_of_getElem? hy)
  unfold Un at hu
  rw [show ((y.toNat : Nat) : Int) = y by omega] at hu
  exact hu
open Go.ChangeShapes Go.WideShapes in
theorem open_u8s {H : Type} {henc : TypeId × Value → H} {w : World} {v : Value} {d : DataW H} {ps : List MemPlace} {b0 : Nat} {r : Reach}
    (hval : Value.okWide Try.prog w r b0 24 v) (hd : DataW.Trod henc Try.prog w 0 (fun _ => true) true 24 v d ps) :
    ∃ a0 cap, ∃ xs : List Nat, v = .slice a0 xs.length cap ∧ xs.length ≤ maxLen ∧ SlOf (Un .u8) 1 w a0 xs ∧ ∀ x, x ∈ xs → x < 256 := by
  obtain ⟨a0, cap, xs, h1, h2, h3, h4⟩ := open_zs Try.underlying24 Try.underlying5 (by kernel_rfl) hval hd
  have hb : ∀ x ∈ xs, 0 ≤ x ∧ x ≤ 255 := fun x hx => by have := h4 x hx; simp [Lit.wf, IntKind.min, IntKind.max, IntKind.signed, IntKind.bits] at this; omega
  refine ⟨a0, cap, xs.map Int.toNat, by rw [List.length_map]; exact h1, by rw [List.length_map]; exact h2, nat_row h3 (fun x hx => (hb x hx).1), fun x hx => ?_⟩
  obtain ⟨y, hy, rfl⟩ := List.mem_map.1 hx
  have := hb y hy
  omega
open Go.ChangeShapes Go.WideShapes in
theorem open_u16s {H : Type} {henc : TypeId × Value → H} {w : World} {v : Value} {d : DataW H} {ps : List MemPlace} {b0 : Nat} {r : Reach}
    (hval : Value.okWide Try.prog w r b0 33 v) (hd : DataW.Trod henc Try.prog w 0 (fun _ => true) true 33 v d ps) :
    ∃ a0 cap, ∃ xs : List Nat, v = .slice a0 xs.length cap ∧ xs.length ≤ maxLen ∧ SlOf (Un .u16) 1 w a0 xs ∧ ∀ x, x ∈ xs → x < 65536 := by
  obtain ⟨a0, cap, xs, h1, h2, h3, h4⟩ := open_zs Try.underlying33 Try.underlying34 (by kernel_rfl) hval hd
  have hb : ∀ x ∈ xs, 0 ≤ x ∧ x ≤ 65535 := fun x hx => by have := h4 x hx; simp [Lit.wf, IntKind.min, IntKind.max, IntKind.signed, IntKind.bits] at this; omega
  refine ⟨a0, cap, xs.map Int.toNat, by rw [List.length_map]; exact h1, by rw [List.length_map]; exact h2, nat_row h3 (fun x hx => (hb x hx).1), fun x hx => ?_⟩
  obtain ⟨y, hy, rfl⟩ := List.mem_map.1 hx
  have := hb y hy
  omega
open Go.ChangeShapes Go.WideShapes in
theorem open_u32s {H : Type} {henc : TypeId × Value → H} {w : World} {v : Value} {d : DataW H} {ps : List MemPlace} {b0 : Nat} {r : Reach}
    (hval : Value.okWide Try.prog w r b0 40 v) (hd : DataW.Trod henc Try.prog w 0 (fun _ => true) true 40 v d ps) :
    ∃ a0 cap, ∃ xs : List Nat, v = .slice a0 xs.length cap ∧ xs.length ≤ maxLen ∧ SlOf (Un .u32) 1 w a0 xs ∧ ∀ x, x ∈ xs → x < 4294967296 := by
  obtain ⟨a0, cap, xs, h1, h2, h3, h4⟩ := open_zs Try.underlying40 Try.underlying41 (by kernel_rfl) hval hd
  have hb : ∀ x ∈ xs, 0 ≤ x ∧ x ≤ 4294967295 := fun x hx => by have := h4 x hx; simp [Lit.wf, IntKind.min, IntKind.max, IntKind.signed, IntKind.bits] at this; omega
  refine ⟨a0, cap, xs.map Int.toNat, by rw [List.length_map]; exact h1, by rw [List.length_map]; exact h2, nat_row h3 (fun x hx => (hb x hx).1), fun x hx => ?_⟩
  obtain ⟨y, hy, rfl⟩ := List.mem_map.1 hx
  have := hb y hy
  omega
open Go.ChangeShapes Go.WideShapes in
theorem open_i64s {H : Type} {henc : TypeId × Value → H} {w : World} {v : Value} {d : DataW H} {ps : List MemPlace} {b0 : Nat} {r : Reach}
    (hval : Value.okWide Try.prog w r b0 22 v) (hd : DataW.Trod henc Try.prog w 0 (fun _ => true) true 22 v d ps) :
    ∃ a0 cap, ∃ xs : List Int, v = .slice a0 xs.length cap ∧ xs.length ≤ maxLen ∧ SlOf (Zn .i64) 1 w a0 xs ∧ ∀ x, x ∈ xs → -9223372036854775808 ≤ x ∧ x ≤ 9223372036854775807 := by
  obtain ⟨a0, cap, xs, h1, h2, h3, h4⟩ := open_zs Try.underlying22 Try.underlying3 (by kernel_rfl) hval hd
  exact ⟨a0, cap, xs, h1, h2, h3, fun x hx => by have := h4 x hx; simp [Lit.wf, IntKind.min, IntKind.max, IntKind.signed, IntKind.bits] at this; omega⟩
end Go.Proofs.Ytmajacfcfdljeaa
