/- Rows of structs of three cells, in the front of a block: pack's things. -/
import Derived.Test.YtciejmlhdmjajaaKRg
import Derived.Test.YtciejmlhdmjajaaKOw
import Derived.BigRegion
namespace Go.Proofs.Ytciejmlhdmjajaa
open Go.RowKit
set_option linter.unusedVariables false
set_option linter.unusedSimpArgs false

/-- A thing: its weight, its symbol, the two that it is a package of. -/
structure Th where
  w : Nat
  s : Nat
  two : Option Addr
def Te (t : Th) : List Value := [.int .i64 (t.w : Int), .int .i64 (t.s : Int), .pointer t.two]
theorem te_len (t : Th) : (Te t).length = 3 := rfl
theorem flatMap_three {α : Type} (f : α → List Value) (h : ∀ x, (f x).length = 3) (l : List α) : (l.flatMap f).length = 3 * l.length := by
  induction l with
  | nil => rfl
  | cons x l ih => rw [List.flatMap_cons, List.length_append, h, ih, List.length_cons]; omega
theorem three_get (F : Nat → Th) (n k j : Nat) (hk : k < n) (hj : j < 3) (rest : List Value) : ((List.range n).flatMap (fun i => Te (F i)) ++ rest)[k * 3 + j]? = (Te (F k))[j]? := by
  have hl : ((List.range n).flatMap (fun i => Te (F i))).length = 3 * n := by rw [flatMap_three _ (fun i => te_len (F i)), List.length_range]
  rw [List.getElem?_append_left (by rw [hl]; omega)]
  obtain ⟨u, hu⟩ : ∃ u, (Te (F k))[j]? = some u := ⟨(Te (F k))[j]'(by rw [te_len]; exact hj), List.getElem?_eq_getElem _⟩
  rw [hu]
  exact flatMap_get (enc := fun i => Te (F i)) (sz := 3) (fun i => te_len (F i)) (l := List.range n) (i := k) (x := k) (by simp [hk]) hj hu
/-- Block g begins with n things. -/
def Trow (w : World) (g n : Nat) (F : Nat → Th) : Prop := ∃ rest, w.heap[g]? = some (.cells ((List.range n).flatMap (fun k => Te (F k)) ++ rest).toArray 102 (0, 0))
theorem Trow.cell {w : World} {g n : Nat} {F : Nat → Th} (h : Trow w g n F) (k j : Nat) (hk : k < n) (hj : j < 3) : w.cell? ⟨g, k * 3 + j, none⟩ = (Te (F k))[j]? := by
  obtain ⟨rest, h⟩ := h
  rw [cell_of h]
  simp only [List.getElem?_toArray]
  exact three_get F n k j hk hj rest
theorem Trow.c0 {w : World} {g n : Nat} {F : Nat → Th} (h : Trow w g n F) (k : Nat) (hk : k < n) : w.cell? ⟨g, k * 3, none⟩ = some (.int .i64 ((F k).w : Int)) := h.cell k 0 hk (by omega)
theorem Trow.c1 {w : World} {g n : Nat} {F : Nat → Th} (h : Trow w g n F) (k : Nat) (hk : k < n) : w.cell? ⟨g, k * 3 + 1, none⟩ = some (.int .i64 ((F k).s : Int)) := h.cell k 1 hk (by omega)
theorem Trow.c2 {w : World} {g n : Nat} {F : Nat → Th} (h : Trow w g n F) (k : Nat) (hk : k < n) : w.cell? ⟨g, k * 3 + 2, none⟩ = some (.pointer (F k).two) := h.cell k 2 hk (by omega)
theorem Trow.fz {w : World} {g n : Nat} {F : Nat → Th} (h : Trow w g n F) (i : Nat) : w.frozen? ⟨g, i, none⟩ = false := by
  obtain ⟨rest, h⟩ := h
  exact free_of h i
theorem Trow.lt {w : World} {g n : Nat} {F : Nat → Th} (h : Trow w g n F) : g < w.heap.size := by
  obtain ⟨rest, h⟩ := h
  exact lt_of h
theorem Trow.to {w w' : World} {g n : Nat} {F : Nat → Th} {l : List Nat} (h : Trow w g n F) (k : Fr l w w') (hb : g ∉ l) : Trow w' g n F := by
  obtain ⟨rest, h⟩ := h
  exact ⟨rest, k.blk h hb⟩
theorem Trow.congr {w : World} {g n : Nat} {F G : Nat → Th} (h : Trow w g n F) (hG : ∀ j, j < n → G j = F j) : Trow w g n G := by
  obtain ⟨rest, h⟩ := h
  refine ⟨rest, ?_⟩
  rw [h]
  congr 4
  have : ∀ l : List Nat, (∀ j ∈ l, j < n) → l.flatMap (fun k => Te (F k)) = l.flatMap (fun k => Te (G k)) := by
    intro l
    induction l with
    | nil => intro _; rfl
    | cons x l ih => intro hl; rw [List.flatMap_cons, List.flatMap_cons, hG x (hl x (by simp)), ih (fun j hj => hl j (by simp [hj]))]
  exact this _ fun j hj => List.mem_range.1 hj
theorem three_set (F G : Nat → Th) (n k : Nat) (hk : k < n) (rest : List Value) (u v x : Value) (hG : ∀ j, j < n → j ≠ k → G j = F j) (hu : Te (G k) = [u, v, x]) :
    ((((List.range n).flatMap (fun i => Te (F i)) ++ rest).set (k * 3) u).set (k * 3 + 1) v).set (k * 3 + 2) x = (List.range n).flatMap (fun i => Te (G i)) ++ rest := by
  have hl : ∀ F : Nat → Th, ((List.range n).flatMap (fun i => Te (F i))).length = 3 * n := fun F => by rw [flatMap_three _ (fun i => te_len (F i)), List.length_range]
  apply List.ext_getElem?
  intro i
  by_cases hi : i < 3 * n
  · have e : i = i / 3 * 3 + i % 3 := by omega
    have hq : i / 3 < n := by omega
    have hr : i % 3 < 3 := by omega
    generalize i / 3 = q at *
    generalize i % 3 = r at *
    subst e
    rw [three_get G n q r hq hr]
    by_cases hqk : q = k
    · subst hqk
      rw [hu]
      rcases (show r = 0 ∨ r = 1 ∨ r = 2 by omega) with rfl | rfl | rfl
      · rw [List.getElem?_set_ne (by omega), List.getElem?_set_ne (by omega), Nat.add_zero, List.getElem?_set_self (by rw [List.length_append, hl]; omega)]; rfl
      · rw [List.getElem?_set_ne (by omega), List.getElem?_set_self (by rw [List.length_set, List.length_append, hl]; omega)]; rfl
      · rw [List.getElem?_set_self (by rw [List.length_set, List.length_set, List.length_append, hl]; omega)]; rfl
    · rw [List.getElem?_set_ne (by omega), List.getElem?_set_ne (by omega), List.getElem?_set_ne (by omega), three_get F n q r hq hr, hG q hq hqk]
  · rw [List.getElem?_set_ne (by omega), List.getElem?_set_ne (by omega), List.getElem?_set_ne (by omega), List.getElem?_append_right (by rw [hl]; omega), List.getElem?_append_right (by rw [hl]; omega), hl, hl]
/-- A thing is written. -/
def putTh (w : World) (g k : Nat) (t : Th) : World := ((w.setCell ⟨g, k * 3, none⟩ (.int .i64 (t.w : Int))).setCell ⟨g, k * 3 + 1, none⟩ (.int .i64 (t.s : Int))).setCell ⟨g, k * 3 + 2, none⟩ (.pointer t.two)
theorem Trow.put {w : World} {g n : Nat} {F : Nat → Th} (h : Trow w g n F) (k : Nat) (hk : k < n) (t : Th) : Trow (putTh w g k t) g n (fun j => if j = k then t else F j) := by
  obtain ⟨rest, h⟩ := h
  refine ⟨rest, ?_⟩
  unfold putTh
  rw [set_of (set_of (set_of h _ _) _ _) _ _]
  congr 2
  apply Array.ext'
  simp only [List.setIfInBounds_toArray]
  exact three_set F _ n k hk rest _ _ _ (fun j hj hjk => by simp [hjk]) (by simp [Te])
theorem putTh_fr (w : World) (g k : Nat) (t : Th) : Fr [g] w (putTh w g k t) := ((Fr.setCell _ g _ _).trans (Fr.setCell _ g _ _)).trans (Fr.setCell _ g _ _)
/-- Two are exchanged. -/
def swapF {α : Type} (F : Nat → α) (i j k : Nat) : α := if k = i then F j else if k = j then F i else F k
theorem Trow.swap {w : World} {g n : Nat} {F : Nat → Th} (h : Trow w g n F) (i j : Nat) (hi : i < n) (hj : j < n) : Trow (putTh (putTh w g i (F j)) g j (F i)) g n (swapF F i j) := by
  refine ((h.put i hi (F j)).put j hj (F i)).congr fun k hk => ?_
  unfold swapF
  by_cases h1 : k = i
  · subst h1
    by_cases h2 : k = j
    · subst h2; simp
    · simp [h2]
  · by_cases h2 : k = j
    · subst h2; simp [h1]
    · simp [h1, h2]

/-- A step at a store, whose run is known. -/
theorem step_store_run {P : Program} {ops : Array Oper} {o : Oper} {a : Act} {w : World} {K : Act → World → Prop} {Q : Exit → Act → World → Prop} {E : Prop} (hgd : o.guard = none) (x y : Operand) (t : TypeId)
    (ho : o.op = .store t x y) {v u : Value} {w' : World} (hx : a.eval x = v) (hy : a.eval y = u)
    (hr : (Instr.storeAt t v u).run P w = .ok () w') (h : K (a.put o.dst undef) w') : if Region.wanted o (yielded ops a.tmps) = true then Oper.wp P o a w K Q else E := by
  have hw : Region.wanted o (yielded ops a.tmps) = true := by simp [Region.wanted, hgd]
  rw [if_pos hw]
  unfold Oper.wp execOp
  simp only [ho, Sem.run_bind, Sem.run_pure, hx, hy, hr, Result.andThen_ok]
  exact h
theorem wpList_store_run {P : Program} {ops : Array Oper} {rest : List Oper} {o : Oper} {a : Act} {w : World} {Q : Exit → Act → World → Prop} (hgd : o.guard = none) (x y : Operand) (t : TypeId)
    (ho : o.op = .store t x y) {v u : Value} {w' : World} (hx : a.eval x = v) (hy : a.eval y = u)
    (hr : (Instr.storeAt t v u).run P w = .ok () w') (h : wpList P ops Q rest (a.put o.dst undef) w') : wpList P ops Q (o :: rest) a w := by
  refine wpList_plain hgd fun K hK => ?_
  unfold Oper.wp execOp
  simp only [ho, Sem.run_bind, Sem.run_pure, hx, hy, hr, Result.andThen_ok]
  exact hK _ _ h
/-- Two ranges of m are exchanged. -/
def swapR {α : Type} (F : Nat → α) (a b m k : Nat) : α := if a ≤ k ∧ k < a + m then F (k - a + b) else if b ≤ k ∧ k < b + m then F (k - b + a) else F k
theorem swapR_succ {α : Type} (F : Nat → α) (a b m k : Nat) (h : a + m < b + 0 ∨ a + (m + 1) ≤ b) : swapF (swapR F a b m) (a + m) (b + m) k = swapR F a b (m + 1) k := by
  unfold swapF swapR
  repeat' split
  all_goals first
    | rfl
    | (exfalso; omega)
    | (congr 1; omega)

set_option maxRecDepth 2000000 in
set_option maxHeartbeats 3200000 in
theorem swapRange_any (g n c a b m : Nat) (F : Nat → Th) (w : World) (h : Trow w g n F) (hn : n ≤ 1000) (hab : a + m ≤ b) (hb : b + m ≤ n) (cv : Value) :
    Calls Try.prog 98 #[.slice (some ⟨g, 0, none⟩) n c, .int .i64 (a : Int), .int .i64 (b : Int), .int .i64 (m : Int), cv] w fun e w' => e = .returned (.tuple #[]) ∧ Trow w' g n (swapR F a b m) ∧ Fr [g] w w' := by
  have i1 : (n : Int) ≤ 1000 := by omega
  have i2 : (a : Int) + (m : Int) ≤ (n : Int) := by omega
  have i3 : (b : Int) + (m : Int) ≤ (n : Int) := by omega
  have H := Lib.hid h
  clear h hn
  go_enter Try.func98, Try.ntmps98
  go_wp2_with fail
  go_loopw [10] (fun i wr => ∃ k : Nat, k ≤ m ∧ i = .int .i64 (k : Int) ∧ Trow wr g n (swapR F a b k) ∧ Fr [g] w wr) (fun i _ => m - (intOf i).toNat)
  case atStart => exact ⟨0, by omega, rfl, H.out.congr (fun j hj => by unfold swapR; rw [if_neg (by omega), if_neg (by omega)]), Fr.refl _ _⟩
  case round =>
    obtain ⟨k, hk, rfl, hT, hf⟩ := hrel
    by_cases hkm : k < m
    · have hki : (k : Int) < (m : Int) := by omega
      obtain ⟨p, hp⟩ : ∃ p, a + k = p := ⟨_, rfl⟩
      obtain ⟨q, hq⟩ : ∃ q, b + k = q := ⟨_, rfl⟩
      have ep : (a : Int) + (k : Int) = (p : Int) := by omega
      have eq_ : (b : Int) + (k : Int) = (q : Int) := by omega
      have hpn : (p : Int) < (n : Int) := by omega
      have hqn : (q : Int) < (n : Int) := by omega
      have hsw := hT.swap p q (by omega) (by omega)
      have d0 := hT.c0 p (by omega)
      have d1 := hT.c1 p (by omega)
      have d2 := hT.c2 p (by omega)
      have e0 := hT.c0 q (by omega)
      have e1 := hT.c1 q (by omega)
      have e2 := hT.c2 q (by omega)
      have g0 := hT.fz (p * 3)
      have g1 := hT.fz (p * 3 + 1)
      have g2 := hT.fz (p * 3 + 2)
      have k0 := hT.fz (q * 3)
      have k1 := hT.fz (q * 3 + 1)
      have k2 := hT.fz (q * 3 + 2)
      have hne : p ≠ q := by omega
      obtain ⟨⟨pw, ps, pt⟩, hP⟩ : ∃ x, swapR F a b k p = x := ⟨_, rfl⟩
      obtain ⟨⟨qw, qs, qt⟩, hQ⟩ : ∃ x, swapR F a b k q = x := ⟨_, rfl⟩
      rw [hP] at d0 d1 d2 hsw
      rw [hQ] at e0 e1 e2 hsw
      simp only at d0 d1 d2 e0 e1 e2
      have hfs := (putTh_fr wr g p ⟨qw, qs, qt⟩).trans (putTh_fr _ g q ⟨pw, ps, pt⟩)
      simp only [putTh] at hsw hfs
      have HS := Lib.hid (And.intro hsw (And.intro hf (And.intro hp (And.intro hq hfs))))
      clear hT hf hsw hP hQ hp hq hfs
      go_wp2_with fail
      go_region
      go_wp2_with fail
      go_roundw
      case rel =>
        refine ⟨k + 1, by omega, by go_num, ?_, ?_⟩
        · refine (HS.out.1.to (Fr.drew (Fr.refl [] _)) (by simp)).congr (fun j hj => ?_)
          have := swapR_succ F a b k j (by omega)
          rw [HS.out.2.2.1, HS.out.2.2.2.1] at this
          exact this.symm
        · exact HS.out.2.1.trans (Fr.drew HS.out.2.2.2.2)
      case measure => simp [intOf]; omega
    · have hke : k = m := by omega
      subst hke
      have HS := Lib.hid (And.intro hT hf)
      clear hT hf
      go_wp2_with fail
      refine bodyPost_end (v := .tuple #[]) (by simp [results, Try.results98, go_sem]) rfl ?_
      exact ⟨rfl, HS.out.1, HS.out.2⟩

/-- What stands from a on to m, and from m on to b, is exchanged. -/
def rotF {α : Type} (F : Nat → α) (a m b k : Nat) : α := if a ≤ k ∧ k < a + (b - m) then F (k - a + m) else if a + (b - m) ≤ k ∧ k < b then F (k - (b - m)) else F k
theorem rot_left {α : Type} (G : Nat → α) (m i j k : Nat) (hi : i ≤ m) (hj : 0 < j) (h : j < i) : rotF (swapR G (m - i) m j) (m - (i - j)) m (m + j) k = rotF G (m - i) m (m + j) k := by
  unfold rotF swapR
  repeat' split
  all_goals first
    | rfl
    | (exfalso; omega)
    | (congr 1; omega)
theorem rot_right {α : Type} (G : Nat → α) (m i j k : Nat) (hi : i ≤ m) (hi0 : 0 < i) (h : i < j) : rotF (swapR G (m - i) (m + j - i) i) (m - i) m (m + (j - i)) k = rotF G (m - i) m (m + j) k := by
  unfold rotF swapR
  repeat' split
  all_goals first
    | rfl
    | (exfalso; omega)
    | (congr 1; omega)
theorem rot_end {α : Type} (G : Nat → α) (m i k : Nat) (hi : i ≤ m) : swapR G (m - i) m i k = rotF G (m - i) m (m + i) k := by
  unfold rotF swapR
  repeat' split
  all_goals first
    | rfl
    | (exfalso; omega)
    | (congr 1; omega)

set_option maxRecDepth 2000000 in
set_option maxHeartbeats 3200000 in
theorem rotate_any (g n c a m b : Nat) (F : Nat → Th) (w : World) (h : Trow w g n F) (hn : n ≤ 1000) (ham : a < m) (hmb : m < b) (hb : b ≤ n) (cv : Value) :
    Calls Try.prog 97 #[.slice (some ⟨g, 0, none⟩) n c, .int .i64 (a : Int), .int .i64 (m : Int), .int .i64 (b : Int), cv] w fun e w' => e = .returned (.tuple #[]) ∧ Trow w' g n (rotF F a m b) ∧ Fr [g] w w' := by
  have i1 : (n : Int) ≤ 1000 := by omega
  have i2 : (a : Int) < (m : Int) := by omega
  have i3 : (m : Int) < (b : Int) := by omega
  have i4 : (b : Int) ≤ (n : Int) := by omega
  have H := Lib.hid h
  clear h hn
  go_enter Try.func97, Try.ntmps97
  go_wp2_with fail
  go_loopw [10, 11] (fun i j wr => ∃ (x y : Nat) (G : Nat → Th), 0 < x ∧ x ≤ m ∧ 0 < y ∧ m + y ≤ n ∧ i = .int .i64 (x : Int) ∧ j = .int .i64 (y : Int) ∧ Trow wr g n G ∧ (∀ k, rotF G (m - x) m (m + y) k = rotF F a m b k) ∧ Fr [g] w wr) (fun i j _ => (intOf i).toNat + (intOf j).toNat)
  case atStart =>
    refine ⟨m - a, b - m, F, by omega, by omega, by omega, by omega, ?_, ?_, H.out, fun k => ?_, Fr.refl _ _⟩
    · congr 1; omega
    · congr 1; omega
    · rw [show m - (m - a) = a by omega, show m + (b - m) = b by omega]
  case round =>
    obtain ⟨x, y, G, hx0, hxm, hy0, hyn, rfl, rfl, hT, hG, hf⟩ := hrel
    have hxi : (x : Int) ≤ (m : Int) := by omega
    have hyi : (m : Int) + (y : Int) ≤ (n : Int) := by omega
    have hx1 : 1 ≤ (x : Int) := by omega
    have hy1 : 1 ≤ (y : Int) := by omega
    have ed : (m : Int) - (x : Int) = ((m - x : Nat) : Int) := by omega
    obtain ⟨d, hd⟩ : ∃ d, m - x = d := ⟨_, rfl⟩
    rw [hd] at ed
    have HS := Lib.hid (And.intro hT (And.intro hG (And.intro hf hd)))
    by_cases hxy : x = y
    · subst hxy
      have HC := Lib.hid (swapRange_any g n c d m x G wr hT (by omega) (by omega) (by omega) cv)
      clear hT hG hf hd
      go_wp2_with fail
      refine HC.out.mono ?_
      rintro e w1 ⟨rfl, hT1, hf1⟩
      have H1 := Lib.hid (And.intro hT1 hf1)
      clear hT1 hf1
      go_wp2_with fail
      refine bodyPost_end (v := .tuple #[]) (by simp [results, Try.results97, go_sem]) rfl ?_
      refine ⟨rfl, H1.out.1.congr fun j hj => ?_, HS.out.2.2.1.trans H1.out.2⟩
      rw [← HS.out.2.1 j, ← HS.out.2.2.2]
      exact (rot_end G m x j hxm).symm
    · have hne : ((x : Int) == (y : Int)) = false := by simp; omega
      have hne2 : ¬ (x : Int) = (y : Int) := by omega
      by_cases hlt : y < x
      · have hlt' : (y : Int) < (x : Int) := by omega
        have HC := Lib.hid (swapRange_any g n c d m y G wr hT (by omega) (by omega) (by omega) cv)
        clear hT hG hf hd
        go_wp2_with fail
        refine HC.out.mono ?_
        rintro e w1 ⟨rfl, hT1, hf1⟩
        have H1 := Lib.hid (And.intro hT1 hf1)
        clear hT1 hf1
        go_wp2_with fail
        go_roundw
        case rel =>
          refine ⟨x - y, y, _, by omega, by omega, hy0, hyn, ?_, rfl, H1.out.1, fun k => ?_, HS.out.2.2.1.trans H1.out.2⟩
          · congr 1; omega
          · rw [← HS.out.2.1 k, ← HS.out.2.2.2]
            exact rot_left G m x y k hxm hy0 hlt
        case measure => simp [intOf]; omega
      · have hlt' : (x : Int) < (y : Int) := by omega
        have ed2 : (m : Int) + (y : Int) - (x : Int) = ((m + y - x : Nat) : Int) := by omega
        obtain ⟨d2, hd2⟩ : ∃ d2, m + y - x = d2 := ⟨_, rfl⟩
        rw [hd2] at ed2
        have HC := Lib.hid (swapRange_any g n c d d2 x G wr hT (by omega) (by omega) (by omega) cv)
        have HD2 := Lib.hid hd2
        clear hT hG hf hd hd2
        go_wp2_with fail
        refine HC.out.mono ?_
        rintro e w1 ⟨rfl, hT1, hf1⟩
        have H1 := Lib.hid (And.intro hT1 hf1)
        clear hT1 hf1
        go_wp2_with fail
        go_roundw
        case rel =>
          refine ⟨x, y - x, _, hx0, hxm, by omega, by omega, rfl, ?_, H1.out.1, fun k => ?_, HS.out.2.2.1.trans H1.out.2⟩
          · congr 1; omega
          · rw [← HS.out.2.1 k, ← HS.out.2.2.2, ← HD2.out]
            exact rot_right G m x y k hxm hx0 (by omega)
        case measure => simp [intOf]; omega
end Go.Proofs.Ytciejmlhdmjajaa

