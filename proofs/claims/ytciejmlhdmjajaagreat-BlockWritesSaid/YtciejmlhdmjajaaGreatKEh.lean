/- Slices of tokens, and of what tokens are made of, that come in. -/
import Derived.Test.YtciejmlhdmjajaaGreatKEd
import Derived.Test.YtciejmlhdmjajaaGreatKSo
namespace Go.Proofs.YtciejmlhdmjajaaGreat
open Go.RowKit
set_option linter.unusedVariables false
set_option linter.unusedSimpArgs false

structure RawT where
  lit : Nat
  len : Nat
  dist : Nat
def RawT.ok (t : RawT) : Prop := t.lit < 256 ∧ t.len < 65536 ∧ t.dist < 65536
def RawT.enc (t : RawT) : List Value := [.int .u8 (t.lit : Int), .int .u16 (t.len : Int), .int .u16 (t.dist : Int)]
def RawT.sz : Nat := 3
set_option maxRecDepth 100000 in
theorem open_toks {H : Type} {henc : TypeId × Value → H} {w : World} {v : Value} {d : DataW H} {ps : List MemPlace} {b0 : Nat} {r : Reach}
    (hval : Value.okWide Tryz.prog w r b0 22 v) (hd : DataW.Trod henc Tryz.prog w 0 (fun _ => true) true 22 v d ps) :
    ∃ a0 cap, ∃ xs : List Tok, v = .slice a0 xs.length cap ∧ xs.length ≤ maxLen ∧ SlOf Tok.enc Tok.sz w a0 xs ∧ ∀ x, x ∈ xs → x.ok := by
  refine open_structs Tok.enc Tok.ok Tryz.underlying22 Tryz.underlying69 (by kernel_rfl) (by kernel_rfl) (by decide) hval hd (fun _ => rfl) (fun a n ⟨ys, hf⟩ => ?_)
  obtain ⟨v0, y0, c0, _, t0⟩ := hf 0 _ rfl
  obtain ⟨v1, y1, c1, _, t1⟩ := hf 1 _ rfl
  obtain ⟨v2, y2, c2, _, t2⟩ := hf 2 _ rfl
  obtain ⟨n0, e0, _, g0⟩ := DataW.trod_int Tryz.underlying5 t0
  obtain ⟨n1, e1, _, g1⟩ := DataW.trod_int Tryz.underlying3 t1
  obtain ⟨n2, e2, _, g2⟩ := DataW.trod_int Tryz.underlying3 t2
  simp only [List.cons.injEq, and_true] at e0 e1 e2
  subst e0 e1 e2
  have hb := bounds_u8 g0
  obtain ⟨m, rfl⟩ : ∃ m : Nat, n0 = (m : Int) := ⟨n0.toNat, by omega⟩
  refine ⟨⟨m, n1, n2⟩, ⟨by simp only; omega, bounds_i64 g1, bounds_i64 g2⟩, fun j u hu => ?_⟩
  match j, hu with
  | 0, hu => simp [Tok.enc] at hu; subst hu; exact c0
  | 1, hu => simp [Tok.enc] at hu; subst hu; exact c1
  | 2, hu => simp [Tok.enc] at hu; subst hu; exact c2
  | j + 3, hu => simp [Tok.enc] at hu
set_option maxRecDepth 100000 in
theorem open_tok {H : Type} {henc : TypeId × Value → H} {w : World} {v : Value} {d : DataW H} {ps : List MemPlace} {b0 : Nat} {r : Reach}
    (hval : Value.okWide Tryz.prog w r b0 22 v) (hd : DataW.Trod henc Tryz.prog w 0 (fun _ => true) true 22 v d ps) :
    ∃ a0 cap, ∃ xs : List Tok, v = .slice a0 xs.length cap ∧ xs.length ≤ maxLen ∧ SlOf Tok.enc Tok.sz w a0 xs ∧ ∀ x, x ∈ xs → x.ok := open_toks hval hd
end Go.Proofs.YtciejmlhdmjajaaGreat

