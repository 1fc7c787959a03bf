/- The statements' tokens that may be, one behind the other. -/
import Derived.Test.YtciejmlhdmjajaaGreatKEj
import Derived.Test.YtciejmlhdmjajaaGreatKOy
import Derived.Test.YtciejmlhdmjajaaGreatKEh
namespace Go.Proofs.YtciejmlhdmjajaaGreat
open Go.RowKit
set_option linter.unusedVariables false
set_option linter.unusedSimpArgs false

def RawT.tok (r : RawT) (n : Nat) : Tok := if r.len % 4 = 0 ∨ n = 0 then ⟨r.lit, 0, 0⟩ else ⟨0, ((3 + r.len % 256 : Nat) : Int), ((1 + r.dist % min n 32768 : Nat) : Int)⟩
def Tok.wide (t : Tok) : Nat := max t.len.toNat 1
def madeL : Nat → List RawT → List Tok
  | _, [] => []
  | n, r :: l => r.tok n :: madeL (n + (r.tok n).wide) l
theorem tok_ok (r : RawT) (h : r.ok) (n : Nat) : (r.tok n).ok ∧ (r.tok n).may = true ∧ (r.tok n).wide ≤ 258 ∧ 1 ≤ (r.tok n).wide := by
  obtain ⟨h1, h2, h3⟩ := h
  unfold RawT.tok
  split
  · refine ⟨⟨h1, by simp only; omega, by simp only; omega⟩, by unfold Tok.may; simp, by unfold Tok.wide; simp only; omega, by unfold Tok.wide; simp only; omega⟩
  · rename_i hn
    have h4 : r.dist % min n 32768 < min n 32768 := Nat.mod_lt _ (by omega)
    generalize r.dist % min n 32768 = d at h4 ⊢
    refine ⟨⟨by simp only; omega, by simp only; omega, by simp only; omega⟩, ?_, by unfold Tok.wide; simp only; omega, by unfold Tok.wide; simp only; omega⟩
    unfold Tok.may
    rw [if_neg (by simp only; omega)]
    exact decide_eq_true ⟨by simp only; omega, by simp only; omega, by simp only; omega, by simp only; omega, rfl⟩
theorem madeL_len : ∀ (l : List RawT) (n : Nat), (madeL n l).length = l.length
  | [], _ => rfl
  | r :: l, n => by simp only [madeL, List.length_cons, madeL_len l]
theorem madeL_ok : ∀ (l : List RawT) (n : Nat), (∀ r ∈ l, r.ok) → ∀ t ∈ madeL n l, t.ok ∧ t.may = true
  | [], _, _, t, ht => by cases ht
  | r :: l, n, h, t, ht => by
    rcases List.mem_cons.1 ht with rfl | ht
    · have := tok_ok r (h r (by simp)) n; exact ⟨this.1, this.2.1⟩
    · exact madeL_ok l _ (fun x hx => h x (by simp [hx])) t ht
def madeN : Nat → List RawT → Nat
  | n, [] => n
  | n, r :: l => madeN (n + (r.tok n).wide) l
theorem made_snoc : ∀ (l : List RawT) (r : RawT) (n : Nat), madeL n (l ++ [r]) = madeL n l ++ [r.tok (madeN n l)] ∧ madeN n (l ++ [r]) = madeN n l + (r.tok (madeN n l)).wide
  | [], r, n => ⟨rfl, rfl⟩
  | q :: l, r, n => by
    obtain ⟨h1, h2⟩ := made_snoc l r (n + (q.tok n).wide)
    exact ⟨by simp only [List.cons_append, madeL, h1, madeN], by simp only [List.cons_append, madeN, h2]⟩
theorem madeN_le : ∀ (l : List RawT) (n : Nat), (∀ r ∈ l, r.ok) → madeN n l ≤ n + 258 * l.length
  | [], n, _ => by simp [madeN]
  | r :: l, n, h => by
    have h1 := madeN_le l (n + (r.tok n).wide) fun x hx => h x (by simp [hx])
    have h2 := (tok_ok r (h r (by simp)) n).2.2.1
    simp only [madeN, List.length_cons]
    omega
theorem tokElem : Elem Tryz.prog 22 69 3 24 := by
  refine ⟨Tryz.underlying22, ?_⟩
  obtain ⟨i, h1, h2, h3, h4⟩ := info_parts (show (Tryz.prog.info? 69).map (fun i => (i.zero, i.size, i.bytes)) = some (some (.agg #[.int .u8 0, .int .i64 0, .int .i64 0]), 3, 24) by kernel_rfl)
  exact ⟨i, _, h1, h2, h3, h4, rfl, by omega⟩
end Go.Proofs.YtciejmlhdmjajaaGreat

