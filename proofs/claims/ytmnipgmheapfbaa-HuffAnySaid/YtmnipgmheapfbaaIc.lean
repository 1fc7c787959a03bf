/- The statement HuffAny: its Go function, whatever comes in. -/
import Derived.Test.YtmnipgmheapfbaaIb
namespace Go.Proofs.Ytmnipgmheapfbaa
open Go.RowKit
set_option linter.unusedVariables false

theorem huffAny_walk (w : World) (a0 : Option Addr) (c0 : Nat) (x0 : List Nat) (l0 : x0.length ≤ maxLen) (s0 : SlOf (Un .u8) 1 w a0 x0) (o0 : ∀ x, x ∈ x0 → x < 256) (a1 : ByteArray) (w1 : a1.size ≤ maxLen) (a2 : Int) (w2 : (Lit.int .u8 a2).wf = true) :
    Calls Try.prog 7 #[.slice a0 x0.length c0, .string a1, .int .u8 a2] w fun e w' => e = .returned (.bool true) ∧ Below w.heap.size w w' := by
  rw [un_u8] at s0
  unfold maxLen at l0 w1
  obtain ⟨n1, rfl, h1⟩ := nat_u8 w2
  by_cases hb : 320 < x0.length ∨ 200 < a1.size
  · exact any_big w a0 c0 x0 a1 l0 w1 hb _
  by_cases hk5 : kindN x0 = 5
  · exact any_none w a0 c0 x0 a1 (by omega) (by omega) n1 h1 2 (by decide) (by decide) (fun f W hf0 hf1 hW => hnew_arg a0 c0 x0 f W (s0.below hW.below) l0 o0 (by omega) (by omega) (.inr (.inr hk5)))
      (fun W hW => (hwrites_bad a0 c0 x0 W (s0.below hW.below) l0 o0 2 (.inl ⟨hk5, rfl⟩)).mono fun e w' ⟨h, f⟩ => ⟨_, _, h, f⟩)
  by_cases hk4 : kindN x0 = 4
  · exact any_none w a0 c0 x0 a1 (by omega) (by omega) n1 h1 7 (by decide) (by decide) (fun f W hf0 hf1 hW => hnew_form a0 c0 x0 f W (s0.below hW.below) l0 o0 hf0 (by omega) (.inl hk4))
      (fun W hW => (hwrites_bad a0 c0 x0 W (s0.below hW.below) l0 o0 7 (.inr ⟨hk4, rfl⟩)).mono fun e w' ⟨h, f⟩ => ⟨_, _, h, f⟩)
  by_cases hk3 : kindN x0 = 3
  · exact any_none w a0 c0 x0 a1 (by omega) (by omega) n1 h1 7 (by decide) (by decide) (fun f W hf0 hf1 hW => hnew_form a0 c0 x0 f W (s0.below hW.below) l0 o0 hf0 (by omega) (.inr hk3))
      (fun W hW => (hwrites_any a0 c0 x0 W (s0.below hW.below) l0 o0 hk5 hk4).mono fun e w' ⟨g, h, _, _, f⟩ => ⟨_, _, h, f⟩)
  · exact any_any w a0 c0 x0 a1 (by omega) (by omega) s0 o0 n1 h1 hk5 hk4 hk3
end Go.Proofs.Ytmnipgmheapfbaa

