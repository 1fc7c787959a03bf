/- A region in a round of a loop over an iterator whose head only reads and whose last operations stand in one order. -/
import Derived.Test.YtciejmlhdmjajaaGreatKRg
import Derived.Test.YtciejmlhdmjajaaGreatKTm
namespace Go.Proofs.YtciejmlhdmjajaaGreat
open Go.RowKit
set_option linter.unusedVariables false
set_option linter.unusedSimpArgs false

/-- Operations that enter nothing, seen at their names. -/
def tameOp : Op → Bool
  | .move _ | .assign _ | .alloc _ | .box _ _ | .build _ _ | .buildSlice _ _ _ | .load _ _ | .store _ _ _ | .binOp _ _ _ _ _ | .unOp _ _ _ | .convert _ _ _ | .makeSlice _ _ _ | .slice _ _ _ _ _ | .fieldAddr _ _ _ | .field _ _ _ | .indexAddr _ _ _ | .index _ _ _ | .extract _ _ => true
  | .call c => match c.callee with
    | .builtin .append => c.args.size == 2 && c.argTypes.size == 2
    | _ => false
  | _ => false
theorem tame_of {P : Program} {o : Oper} (h : tameOp o.op = true) : Tame P o := by
  obtain ⟨dst, op, type, ev, gd, af⟩ := o
  cases op
  all_goals try (simp [tameOp] at h; done)
  case call c =>
    obtain ⟨cal, args, ats⟩ := c
    cases cal with
    | builtin b =>
      cases b
      all_goals try (simp [tameOp] at h; done)
      simp [tameOp] at h
      obtain ⟨s, x, rfl⟩ : ∃ s x, args = #[s, x] := by
        obtain ⟨l⟩ := args
        match l, h.1 with
        | [s, x], _ => exact ⟨s, x, rfl⟩
      obtain ⟨t, u, rfl⟩ : ∃ s x, ats = #[s, x] := by
        obtain ⟨l⟩ := ats
        match l, h.2 with
        | [s, x], _ => exact ⟨s, x, rfl⟩
      exact Tame.append s x t u rfl
    | _ => simp [tameOp] at h
  all_goals first
    | exact Tame.of_value (fun c h => by cases h) (fun c h => by cases h) (fun ρ w => trivial)
    | exact Tame.of_value (fun c h => by cases h) (fun c h => by cases h) (fun ρ w => calm_value _ _)
    | exact Tame.of_value (fun c h => by cases h) (fun c h => by cases h) (fun ρ w => calm_skip _ _)
theorem tame_all {P : Program} {ops : Array Oper} (h : ops.toList.all (fun o => tameOp o.op) = true) : ∀ (i : Nat) (o : Oper), ops[i]? = some o → Tame P o := fun i o ho =>
  tame_of (List.all_eq_true.1 h o (by have := Array.mem_of_getElem? ho; simpa using this))

/-- What stands in every order, of a region whose head only reads. -/
theorem any_tail {P : Program} {Q : Exit → Act → World → Prop} {a : Act} {w : World} {l : List Oper} (n : Nat) (hB : Region.lexTailB .any l.toArray n = true)
    (h : wpStill P l.toArray w (fun a' => wpList P l.toArray Q (l.drop n) a' w) (l.take n) a) : wpAny P .any l.toArray Q l.toArray.size (Array.replicate l.toArray.size false) a w := by
  unfold Region.lexTailB at hB
  simp only [Bool.and_eq_true, decide_eq_true_eq] at hB
  have hlt : n < l.length := by simpa using hB.1.1.1.2
  have e1 : (l.take n).length = n := by simp; omega
  have e2 : (l.drop n).length = l.toArray.size - n := by simp
  have key := wpAnyL_lex (P := P) (w := w) (Lq := fun a' => wpList P l.toArray Q (l.drop n) a' w) hB.1.1.1.1 hB.1.1.2 hB.1.2 hB.1.1.1.2 (l.take n) 0 (Array.replicate l.toArray.size false) a
    (fun j hj => by rw [e1] at hj; simp [hj]) (by simpa using e1)
    ⟨by simp, fun j oj _ hl => (by rw [getD_replicate_false] at hl; cases hl), fun t _ ht => getD_in (by simpa using ht) (getD_replicate_false _ _)⟩ (by rw [e1]; exact hB.2) h
  have key2 := wpAny_of_head (Q' := Q) (g := l.toArray.size - n) (fun listed a' hL => by
    have h3 := wpAny_of_seq (P := P) (md := .any) (ops := l.toArray) (Q' := Q) (l.drop n) n listed a' w (fun j => by simp [List.getElem?_drop]) (by rw [e2]; exact hL.1) hL.2
    rw [e2] at h3
    exact h3) _ _ _ key
  rw [e1, show n + (l.toArray.size - n) = l.toArray.size by omega] at key2
  exact key2
theorem wpIn_region_tail {F : Fence} {P : Program} {m : Nat} {id : Nat} {Q : Exit → Act → World → Prop} {a : Act} {w : World} {l : List Oper} (n : Nat) (hm : P.follows .mixedOrders = true) (hQ : ¬ LetsOut Q) (ht : l.all (fun o => tameOp o.op) = true) (hB : Region.lexTailB .any l.toArray n = true)
    (h : wpQuiet P l.toArray (fun w' => w' = w.drew) (fun a' => wpList P l.toArray Q (l.drop n) a' w.drew) (l.take n) a) : (Code.region id l.toArray true).wpIn F m P Q a w :=
  wpIn_region_tame hm hQ (tame_all (by simpa using ht)) (any_tail n hB (still_of_quiet _ _ h))
end Go.Proofs.YtciejmlhdmjajaaGreat

