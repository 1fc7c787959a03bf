/- 'append' of a slice of bytes that reads as a list, onto a row of one's own. -/
import Derived.Test.YtciejmlhdmjajaaGreatKHd
import Derived.Test.YtciejmlhdmjajaaGreatKOy
import Derived.Deep.RegionLaw
import Derived.Deep.AppendLies
namespace Go.Proofs.YtciejmlhdmjajaaGreat
open Go.RowKit
set_option linter.unusedVariables false
set_option linter.unusedSimpArgs false

theorem u8Elem : Elem Tryz.prog 36 5 1 1 := by
  obtain ⟨i, h1, h2, h3, h4⟩ := u8info
  exact ⟨Tryz.underlying36, i, _, h1, h2, h3, h4, rfl, by omega⟩
/-- Behind such an append. -/
structure Catd (wo : World) (g cap n : Nat) (xs : List Value) (w' : World) : Prop where
  own : w'.ownsRow wo.heap.size 5 1 (.slice (some ⟨g, 0, none⟩) n cap) n xs
  fr : Fr [] wo w'
def u8s (l : List Nat) : List Value := l.map fun (n : Nat) => Value.int .u8 (n : Int)
theorem u8s_append (a b : List Nat) : u8s (a ++ b) = u8s a ++ u8s b := List.map_append
theorem u8s_len (a : List Nat) : (u8s a).length = a.length := List.length_map _
theorem cat_run {w wo : World} (ty : TypeId) {v : Value} {n : Nat} {xs : List Value} (hown : w.ownsRow wo.heap.size 5 1 v n xs) (hf : Fr [] wo w) {ax : Option Addr} {L : List Nat} (m c : Nat) (hL : SlOf U8 1 w ax L) (hm : m ≤ L.length) (h0 : 0 < m) (h63 : n + m ≤ 1000000000) :
    ∃ g cap w', (Builtin.append_ #[36, 36] ty #[v, .slice ax m c]).run Tryz.prog w = .ok (.slice (some ⟨g, 0, none⟩) (n + m) cap) w' ∧ Catd wo g cap (n + m) (xs ++ u8s (L.take m)) w' := by
  obtain ⟨ht, i, z, hi, hz, hsz, hby, hzs, hpos⟩ := u8Elem
  obtain ⟨b, o, rfl, hb, hc⟩ := hL (by intro h; rw [h] at hm; simp at hm; omega)
  obtain ⟨g, cap, w', hr, k1, k2, k3, k4⟩ := run_append_lies (P := Tryz.prog) w 36 ty wo.heap.size 5 i z 1 1 ht hi hz hsz hby hzs hpos v n xs hown ⟨b, o, none⟩ m c (u8s (L.take m)) (by rw [u8s_len, List.length_take]; omega)
    (fun j u hu => by
      unfold u8s at hu
      rw [List.getElem?_map] at hu
      have hj : j < m := by
        rcases Nat.lt_or_ge j m with h | h
        · exact h
        · rw [List.getElem?_eq_none (by rw [List.length_take]; omega)] at hu; simp at hu
      rw [List.getElem?_take, if_pos hj] at hu
      cases hq : L[j]? with
      | none => rw [hq] at hu; simp at hu
      | some y =>
        rw [hq] at hu
        simp at hu
        subst hu
        have h5 := hc j y hq 0 (.int .u8 (y : Int)) rfl
        rw [Nat.mul_one, Nat.add_zero] at h5
        rw [add_none]
        exact h5)
    (fun u hu => by
      unfold u8s at hu
      obtain ⟨y, _, rfl⟩ := List.mem_map.1 hu
      rfl) h0 (by unfold maxLen; omega) (by omega) hf.size _ rfl
  exact ⟨g, cap, w', hr, k1, ⟨k2.os.trans hf.os, k2.tape.trans hf.tape, k2.output.trans hf.output, Nat.le_trans hf.size k2.size, fun k hk _ => (k2.block k (Nat.lt_of_lt_of_le hk hf.size) (fun e => by have := (hown.lt k e.symm).1; omega)).trans (hf.block k hk (by simp))⟩⟩
/-- At a step of a region. -/
theorem step_cat8 {ops : Array Oper} {o : Oper} {a : Act} {w : World} {K : Act → World → Prop} {Q : Exit → Act → World → Prop} {E : Prop} (wo : World) (hgd : o.guard = none) (s x : Operand)
    (ho : o.op = .call { callee := .builtin .append, args := #[s, x], argTypes := #[36, 36] }) (v : Value) (n : Nat) (xs : List Value) (hs : a.eval s = v) (hown : w.ownsRow wo.heap.size 5 1 v n xs) (hf : Fr [] wo w) (ax : Option Addr) (m c : Nat) (L : List Nat) (hx : a.eval x = .slice ax m c)
    (hL : SlOf U8 1 w ax L) (hm : m ≤ L.length) (h0 : 0 < m) (N : Nat) (hN : n + m = N) (h63 : N ≤ 1000000000)
    (h : ∀ g cap w', Hid (Catd wo g cap N (xs ++ u8s (L.take m)) w') → K (a.put o.dst (.slice (some ⟨g, 0, none⟩) N cap)) w') : if Region.wanted o (yielded ops a.tmps) = true then Oper.wp Tryz.prog o a w K Q else E := by
  subst hN
  obtain ⟨g, cap, w', hr, hC⟩ := cat_run o.type hown hf m c hL hm h0 h63
  exact step_append_run hgd s x 36 ho hs hx hr (h g cap w' (Lib.hid hC))
theorem own_empty8 {w : World} {B N : Nat} (h : w.heap[N]? = some (.cells #[] 5 (0, 0))) (hB : B ≤ N) : w.ownsRow B 5 1 (.slice (some ⟨N, 0, none⟩) 0 0) 0 [] :=
  ⟨rfl, .inr ⟨N, 0, #[], rfl, hB, h, Nat.le_refl _, by unfold maxLen; omega, rfl, rfl⟩⟩
theorem u8s_flat (l : List Nat) : u8s l = l.flatMap U8 := by
  induction l with
  | nil => rfl
  | cons x l ih => show _ :: u8s l = _; rw [ih]; rfl
theorem sl_own8 {w : World} {B : Nat} {a : Option Addr} {n c : Nat} {l : List Nat} (h : w.ownsRow B 5 1 (.slice a n c) n (u8s l)) (hn : n = l.length) : SlOf U8 1 w a l := by
  rw [u8s_flat] at h
  obtain ⟨a0, cap, h1, h2⟩ := slOf_own (enc := U8) u8_len h hn
  cases h1
  exact h2
theorem own_cap {w : World} {B : Nat} {e : TypeId} {sz n c : Nat} {a : Option Addr} {xs : List Value} (h : w.ownsRow B e sz (.slice a n c) n xs) : n ≤ c := by
  rcases h.2 with ⟨h1, h0⟩ | ⟨g, cap, cur, h1, hb, hg, hc, _⟩
  · cases h1; omega
  · cases h1; exact hc
theorem ownsRow_base {w : World} {B C : Nat} {e : TypeId} {sz n : Nat} {v : Value} {xs : List Value} (h : w.ownsRow B e sz v n xs) (hBC : C ≤ B) : w.ownsRow C e sz v n xs := by
  obtain ⟨h1, h2⟩ := h
  refine ⟨h1, ?_⟩
  rcases h2 with h2 | ⟨g, cap, cur, a1, a2, a3⟩
  · exact .inl h2
  · exact .inr ⟨g, cap, cur, a1, Nat.le_trans hBC a2, a3⟩
end Go.Proofs.YtciejmlhdmjajaaGreat

