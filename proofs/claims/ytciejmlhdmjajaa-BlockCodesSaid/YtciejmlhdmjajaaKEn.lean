/- Package block: how many lengths are told. -/
import Derived.Test.YtciejmlhdmjajaaKEm
namespace Go.Proofs.Ytciejmlhdmjajaa
open Go.RowKit
set_option linter.unusedVariables false
set_option linter.unusedSimpArgs false

def uptoD (l : List Nat) (least : Nat) : Nat → Nat
  | 0 => 0
  | n + 1 => if least < n + 1 ∧ l.getD n 0 = 0 then uptoD l least n else n + 1
def uptoL (l : List Nat) (least : Nat) : Nat := uptoD l least l.length
theorem uptoD_le (l : List Nat) (least : Nat) : ∀ n, uptoD l least n ≤ n
  | 0 => Nat.le_refl _
  | n + 1 => by unfold uptoD; split; have := uptoD_le l least n; omega; omega
theorem uptoD_ge (l : List Nat) (least : Nat) : ∀ n, least ≤ n → least ≤ uptoD l least n
  | 0, h => h
  | n + 1, h => by
    unfold uptoD
    split
    · exact uptoD_ge l least n (by omega)
    · exact h
theorem uptoD_zero (l : List Nat) (least : Nat) : ∀ n i, uptoD l least n ≤ i → i < n → l.getD i 0 = 0
  | 0, i, _, h => by omega
  | n + 1, i, h, h2 => by
    unfold uptoD at h
    split at h
    · by_cases hi : i = n
      · subst hi; rename_i h3; exact h3.2
      · exact uptoD_zero l least n i h (by omega)
    · omega
theorem uptoD_last (l : List Nat) (least : Nat) : ∀ n, least ≤ n → uptoD l least n = least ∨ (0 < uptoD l least n ∧ l.getD (uptoD l least n - 1) 0 ≠ 0)
  | 0, h => by left; unfold uptoD; omega
  | n + 1, h => by
    unfold uptoD
    split
    · exact uptoD_last l least n (by omega)
    · rename_i h3
      by_cases h4 : least < n + 1
      · right; exact ⟨by omega, fun h5 => h3 ⟨h4, h5⟩⟩
      · left; omega
set_option maxRecDepth 100000 in
set_option maxHeartbeats 3200000 in
theorem bupto_ok (a : Option Addr) (c : Nat) (l : List Nat) (least : Nat) (w : World) (hs : SlOf U8 1 w a l) (hl : l.length ≤ 1000000) (h8 : ∀ x ∈ l, x < 256) :
    Calls Try.prog 57 #[.slice a l.length c, .int .i64 (least : Int)] w fun e w' => e = .returned (.int .i64 ((uptoL l least : Nat) : Int)) ∧ w' = w := by
  have HB := Lib.hid (And.intro hs h8)
  have hli : (l.length : Int) ≤ 1000000 := by omega
  clear hs h8 hl
  go_enter Try.func57, Try.ntmps57
  go_wp2_with fail
  go_loopw [5] (fun v5 wr => ∃ n : Nat, v5 = .int .i64 (n : Int) ∧ n ≤ l.length ∧ Hid (uptoD l least n = uptoL l least) ∧ wr = w) (fun v5 _ => (intOf v5).toNat)
  case atStart => exact ⟨_, rfl, Nat.le_refl _, Lib.hid rfl, rfl⟩
  case round =>
    obtain ⟨n, rfl, hn, hp, rfl⟩ := hrel
    by_cases hlt : least < n
    · have hlti : (least : Int) < (n : Int) := by omega
      obtain ⟨m, rfl⟩ : ∃ m, n = m + 1 := ⟨n - 1, by omega⟩
      have em : ((m + 1 : Nat) : Int) - 1 = (m : Int) := by omega
      obtain ⟨x, hx⟩ : ∃ x, l[m]? = some x := ⟨l[m]'(by omega), List.getElem?_eq_getElem _⟩
      obtain ⟨b, o, rfl, hbl, hc⟩ := HB.out.1 (by intro h; rw [h] at hx; simp at hx)
      have c0 := hc m x hx 0 (.int .u8 (x : Int)) rfl
      rw [Nat.mul_one, Nat.add_zero] at c0
      have hgd : l.getD m 0 = x := by simp [List.getD, hx]
      have hml : (m : Int) < (l.length : Int) := by omega
      by_cases hx0 : x = 0
      · subst hx0
        have HP := Lib.hid (show uptoD l least m = uptoL l least by have := hp.out; unfold uptoD at this; rw [if_pos ⟨hlt, hgd⟩] at this; exact this)
        clear hc hx hgd
        go_wp2_with fail
        exact ⟨⟨m, rfl, by omega, Lib.hid HP.out, trivial⟩, by simp [intOf]⟩
      · have hxi : ((x : Int) == 0) = false := by rw [beq_eq_false_iff_ne]; omega
        have HP := Lib.hid (show uptoL l least = m + 1 by have := hp.out; unfold uptoD at this; rw [if_neg (by rw [hgd]; exact fun h => hx0 h.2)] at this; exact this.symm)
        clear hc hx hgd hx0
        go_wp2_with fail
        go_ret
        exact ⟨by rw [HP.out]; rfl, rfl⟩
    · have HP := Lib.hid (show uptoL l least = n by
        have := hp.out
        cases n with
        | zero => exact this.symm
        | succ m => unfold uptoD at this; rw [if_neg (fun h => hlt h.1)] at this; exact this.symm)
      have hlti : (n : Int) ≤ (least : Int) := by omega
      clear hlt
      go_wp2_with fail
      go_ret
      exact ⟨by rw [HP.out]; rfl, rfl⟩
end Go.Proofs.Ytciejmlhdmjajaa

