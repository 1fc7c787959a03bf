/- The calls of chapter 02 and the pieces of chapter 03 as Lean structures; what 'Heavy' tells. -/
import Derived.Test.YtlognooioemenaaSw
import Derived.Test.YtlognooioemenaaBa
namespace Go.Proofs.Ytlognooioemenaa
open Go.RowKit
set_option linter.unusedVariables false
set_option linter.unusedSimpArgs false

structure Call02 where
  act : Int
  n : Int
  size : Int
  s : ByteArray
def Call02.enc (c : Call02) : List Value := [.int .u8 c.act, .int .u64 c.n, .int .i64 c.size, .string c.s]
def Call02.sz : Nat := 4
def Call02.ok (c : Call02) : Prop := (0 ≤ c.act ∧ c.act ≤ 255) ∧ (0 ≤ c.n ∧ c.n ≤ 18446744073709551615) ∧ (-9223372036854775808 ≤ c.size ∧ c.size ≤ 9223372036854775807) ∧ c.s.size ≤ 140737488351232

theorem open_call02 {H : Type} {henc : TypeId × Value → H} {w : World} {v : Value} {d : DataW H} {ps : List MemPlace} {b0 : Nat} {r : Reach}
    (hval : Value.okWide Try.prog w r b0 42 v) (hd : DataW.Trod henc Try.prog w 0 (fun _ => true) true 42 v d ps) (hwt : ∀ n ∈ d.weights Try.prog 42, n ≤ reachBytes) :
    ∃ a0 cap, ∃ xs : List Call02, v = .slice a0 xs.length cap ∧ xs.length ≤ maxLen ∧ SlOf Call02.enc Call02.sz w a0 xs ∧ ∀ x, x ∈ xs → x.ok := by
  refine open_structs_w Call02.enc Call02.ok Try.underlying42 Try.underlying45 (by kernel_rfl) (by kernel_rfl) (by decide) hval hd (fun _ => rfl) hwt (fun a n ⟨ys, hws, hf⟩ => ?_)
  obtain ⟨v0, y0, c0, _, t0⟩ := hf 0 _ rfl
  obtain ⟨v1, y1, c1, _, t1⟩ := hf 1 _ rfl
  obtain ⟨v2, y2, c2, _, t2⟩ := hf 2 _ rfl
  obtain ⟨v3, y3, c3, hy3, t3⟩ := hf 3 _ rfl
  obtain ⟨n0, e0, _, g0⟩ := DataW.trod_int Try.underlying5 t0
  obtain ⟨n1, e1, _, g1⟩ := DataW.trod_int Try.underlying28 t1
  obtain ⟨n2, e2, _, g2⟩ := DataW.trod_int Try.underlying3 t2
  obtain ⟨n3, e3, hs3, _⟩ := DataW.trod_string Try.underlying9 t3
  have g3 := text_le hws rfl hy3 hs3
  simp only [List.cons.injEq, and_true] at e0 e1 e2 e3
  subst e0 e1 e2 e3
  refine ⟨⟨n0, n1, n2, n3⟩, ⟨bounds_u8 g0, bounds_u64 g1, bounds_i64 g2, g3⟩, fun j u hu => ?_⟩
  match j, hu with
  | 0, hu => simp [Call02.enc] at hu; subst hu; exact c0
  | 1, hu => simp [Call02.enc] at hu; subst hu; exact c1
  | 2, hu => simp [Call02.enc] at hu; subst hu; exact c2
  | 3, hu => simp [Call02.enc] at hu; subst hu; exact c3
  | j + 4, hu => simp [Call02.enc] at hu

/-- The bytes of all texts of a list of calls. -/
def total : List Call02 → Nat
  | [] => 0
  | c :: l => c.s.size + total l
theorem total_append (a b : List Call02) : total (a ++ b) = total a + total b := by
  induction a with
  | nil => simp [total]
  | cons c a ih => simp [total, ih, Nat.add_assoc]
theorem total_take (l : List Call02) (i : Nat) (c : Call02) (h : l[i]? = some c) : total (l.take (i + 1)) = total (l.take i) + c.s.size := by
  obtain ⟨hi, he⟩ := List.getElem?_eq_some_iff.1 h
  rw [List.take_succ_eq_append_getElem hi, total_append, he]
  simp [total]
theorem total_le (l : List Call02) (i : Nat) : total (l.take i) ≤ total l := by
  have := total_append (l.take i) (l.drop i)
  rw [List.take_append_drop] at this
  omega
theorem total_mem {l : List Call02} {c : Call02} (h : c ∈ l) : c.s.size ≤ total l := by
  induction l with
  | nil => cases h
  | cons x l ih =>
    simp only [total]
    rcases List.mem_cons.1 h with rfl | h
    · omega
    · have := ih h; omega

/-- What 'Heavy' answers: if no, there are few calls, with few bytes. -/
def HeavyPost (xs : List Call02) (w : World) (e : Ending) (w' : World) : Prop := ∃ r : Bool, e = .returned (.bool r) ∧ (r = false → total xs ≤ 4096 ∧ xs.length ≤ 300) ∧ Fr [] w w'

set_option maxRecDepth 100000 in
set_option maxHeartbeats 800000 in
theorem heavy02 (w : World) (a1 : Option Addr) (c1 : Nat) (x1 : List Call02) (l1 : x1.length ≤ maxLen) (s1 : SlOf Call02.enc Call02.sz w a1 x1) (o1 : ∀ x, x ∈ x1 → x.ok) :
    Calls Try.prog 33 #[.slice a1 x1.length c1] w (HeavyPost x1 w) := by
  unfold maxLen at l1
  have l2 : (x1.length : Int) ≤ 9223372036854775807 := by omega
  have S1 := Lib.hid s1
  have O1 := Lib.hid o1
  clear s1 o1 l1
  go_enter Try.func33, Try.ntmps33
  go_wp2_with fail
  go_loop [3, 4] (fun n i => ∃ k : Nat, k ≤ x1.length ∧ i = .int .i64 k ∧ n = .int .i64 (total (x1.take k)) ∧ total (x1.take k) ≤ 4096) (fun _ i => x1.length - (intOf i).toNat)
  case atStart => exact ⟨0, Nat.zero_le _, rfl, rfl, by simp [total]⟩
  case round =>
    obtain ⟨k, hk, rfl, rfl, hT⟩ := hrel
    by_cases hlt : k < x1.length
    · obtain ⟨c, hc⟩ : ∃ c, x1[k]? = some c := ⟨x1[k], List.getElem?_eq_getElem hlt⟩
      obtain ⟨_, _, _, ho⟩ := O1.out c (List.mem_of_getElem? hc)
      obtain ⟨b, o, rfl, hbl, hcell⟩ := S1.out (by intro h; rw [h] at hlt; simp at hlt)
      have k3 := hcell k c hc 3 (.string c.s) rfl
      simp only [Call02.sz] at k3
      rw [← Nat.add_assoc] at k3
      have ht := total_take x1 k c hc
      obtain ⟨t, ht0⟩ : ∃ t, total (x1.take k) = t := ⟨_, rfl⟩
      rw [ht0] at ht hT ⊢
      have i1 : (t : Int) ≤ 4096 := by omega
      have i2 : (c.s.size : Int) ≤ 140737488351232 := by omega
      have HT := Lib.hid ht
      have HT0 := Lib.hid ht0
      clear hcell hc ht ht0 ho
      go_wp2_with fail
      · go_ret
        exact ⟨true, rfl, (fun h => by cases h), Fr.refl _ _⟩
      · go_round
        case rel => exact ⟨k + 1, by omega, by go_num, by rw [HT.out, Int.natCast_add], by rw [HT.out]; omega⟩
        case measure => simp [intOf]; omega
    · go_wp2_with fail
      go_ret
      have hke : k = x1.length := by omega
      subst hke
      rw [List.take_of_length_le (Nat.le_refl _)] at hT
      exact ⟨decide (300 < (x1.length : Int)), rfl, fun h => ⟨hT, by have := of_decide_eq_false h; omega⟩, Fr.refl _ _⟩
end Go.Proofs.Ytlognooioemenaa
