/- A region in a round of a loop over an iterator: its operations, none of which enters a function, are carried out there as everywhere. -/
import Derived.Test.YtciejmlhdmjajaaGreatKOw
import Derived.OrdersIn
import Derived.OwnWalkIn
import Derived.RegionTactic
namespace Go.Proofs.YtciejmlhdmjajaaGreat
open Go.RowKit
set_option linter.unusedVariables false
set_option linter.unusedSimpArgs false

/-- What an operation comes to that enters nothing. -/
def calm : Result Next → Prop
  | .ok (.value _) _ => True
  | .ok .skip _ => True
  | .ok _ _ => False
  | .halt _ _ => True
def Tame (P : Program) (o : Oper) : Prop := (∀ c, o.op ≠ .defer c) ∧ (∀ w ρ, o.about P w ρ = none) ∧ ∀ ρ w, calm ((execOp ρ o).run P w)

theorem calm_value {P : Program} (m : Sem Value) (w : World) : calm ((do let x ← m; pure (Next.value x) : Sem Next).run P w) := by
  simp only [Sem.run_bind, Sem.run_pure]
  cases m.run P w with
  | ok v w' => exact trivial
  | halt h w' => exact trivial
theorem calm_skip {P : Program} (m : Sem Unit) (w : World) : calm ((do m; pure Next.skip : Sem Next).run P w) := by
  simp only [Sem.run_bind, Sem.run_pure]
  cases m.run P w with
  | ok v w' => exact trivial
  | halt h w' => exact trivial
theorem Tame.of_value {P : Program} {o : Oper} (hc : ∀ c, o.op ≠ .call c) (hd : ∀ c, o.op ≠ .defer c) (h : ∀ ρ w, calm ((execOp ρ o).run P w)) : Tame P o := by
  refine ⟨hd, fun w ρ => ?_, h⟩
  unfold Oper.about
  split
  · rename_i c hh; exact absurd hh (hc c)
  · rfl
theorem Tame.append {P : Program} {o : Oper} (s x : Operand) (t u : TypeId) (ho : o.op = .call { callee := .builtin .append, args := #[s, x], argTypes := #[t, u] }) : Tame P o := by
  refine ⟨fun c h => (by rw [ho] at h; cases h), fun w ρ => ?_, fun ρ w => ?_⟩
  · simp [Oper.about, ho, resolve, Target.leads, Sem.run_pure]
  · have : (execOp ρ o).run P w = ((do let x ← Builtin.append_ #[t, u] o.type #[ρ s, ρ x]; pure (Next.value x) : Sem Next).run P w) := by
      simp [execOp, ho, resolve, invoke, builtin]
    rw [this]
    exact calm_value _ _

theorem wpIn_of_tame {F : Fence} {n : Nat} {P : Program} {o : Oper} {a : Act} {w : World} {K K' : Act → World → Prop} {Q : Exit → Act → World → Prop} (ht : Tame P o) (hk : ∀ a w, K a w → K' a w) (h : o.wp P a w K Q) : o.wpIn F n P a w K' Q := by
  obtain ⟨h1, h2, h3⟩ := ht
  refine ⟨fun f hf => (by rw [h2] at hf; cases hf), ?_⟩
  rw [Oper.semAt_plain F _ _ h1]
  have hc := h3 a.eval w
  unfold Oper.wp at h
  generalize (execOp a.eval o).run P w = r at *
  cases r with
  | ok x w' => cases x <;> first | exact hk _ _ h | exact hc.elim
  | halt x w' => cases x <;> first | exact h | exact h.elim

theorem anyIn_of_any {F : Fence} {n : Nat} {P : Program} {md : Region.Mode} {ops : Array Oper} {Q : Exit → Act → World → Prop} (hQ : ¬ LetsOut Q) (ht : ∀ (i : Nat) (o : Oper), ops[i]? = some o → Tame P o) :
    ∀ (fuel : Nat) (listed : Array Bool) (a : Act) (w : World), wpAny P md ops Q fuel listed a w → wpAnyIn F n P md ops Q fuel listed a w
  | 0, _, _, _, h => h
  | fuel + 1, listed, a, w, h => by
    refine ⟨h.1, fun i hi => ?_⟩
    have h2 := h.2 i hi
    unfold wpOp at h2
    unfold wpOpIn
    cases ho : ops[i]? with
    | none => simp only [ho] at h2 ⊢; exact anyIn_of_any hQ ht fuel _ _ _ h2
    | some o =>
      simp only [ho] at h2 ⊢
      by_cases hw : Region.wanted o (yielded ops a.tmps) = true
      · simp only [hw, if_true] at h2 ⊢
        exact wpIn_of_tame (ht i o ho) (fun a w => anyIn_of_any hQ ht fuel _ a w) (h2.resolve_right fun h => hQ h.2)
      · simp only [hw, if_false, Bool.false_eq_true] at h2 ⊢
        exact ⟨fun f hf => (by rw [(ht i o ho).2.1] at hf; cases hf), anyIn_of_any hQ ht fuel _ _ _ h2⟩
theorem wpIn_region_tame {F : Fence} {n : Nat} {P : Program} {ops : Array Oper} {Q : Exit → Act → World → Prop} {id : Nat} {a : Act} {w : World} (hm : P.follows .mixedOrders = true) (hQ : ¬ LetsOut Q) (ht : ∀ (i : Nat) (o : Oper), ops[i]? = some o → Tame P o)
    (h : wpAny P .any ops Q ops.size (Array.replicate ops.size false) a w.drew) : (Code.region id ops true).wpIn F n P Q a w :=
  wpIn_region_any hm (anyIn_of_any hQ ht _ _ _ _ h)

/-- A step at 'append', whose run is known. -/
theorem step_append_run {P : Program} {ops : Array Oper} {o : Oper} {a : Act} {w : World} {K : Act → World → Prop} {Q : Exit → Act → World → Prop} {E : Prop} (hgd : o.guard = none) (s x : Operand) (t : TypeId)
    (ho : o.op = .call { callee := .builtin .append, args := #[s, x], argTypes := #[t, t] }) {v u v' : Value} {w' : World} (hs : a.eval s = v) (hx : a.eval x = u)
    (hr : (Builtin.append_ #[t, t] o.type #[v, u]).run P w = .ok v' w') (h : K (a.put o.dst v') w') : if Region.wanted o (yielded ops a.tmps) = true then Oper.wp P o a w K Q else E := by
  have hw : Region.wanted o (yielded ops a.tmps) = true := by simp [Region.wanted, hgd]
  rw [if_pos hw]
  unfold Oper.wp execOp
  simp only [ho, resolve, invoke, builtin, Sem.run_bind, Sem.run_pure, Result.andThen_ok, List.map_toArray, List.map_cons, List.map_nil, hs, hx, hr]
  exact h
end Go.Proofs.YtciejmlhdmjajaaGreat

