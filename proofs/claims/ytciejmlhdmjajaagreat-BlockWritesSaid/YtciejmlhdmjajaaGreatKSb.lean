/- Rows of structs of three cells, in the front of a block: pack's things. Comparing things, and sorting few of them: insertionSortCmpFunc. -/
import Derived.Test.YtciejmlhdmjajaaGreatKRg
import Derived.Test.YtciejmlhdmjajaaGreatKOw
import Derived.BigRegion
namespace Go.Proofs.YtciejmlhdmjajaaGreat
open Go.RowKit
set_option linter.unusedVariables false
set_option linter.unusedSimpArgs false

/-- A thing: its weight, its symbol, the two that it is a package of. -/
structure Th where
  w : Nat
  s : Nat
  two : Option Addr
def Te (t : Th) : List Value := [.int .i64 (t.w : Int), .int .i64 (t.s : Int), .pointer t.two]
theorem te_len (t : Th) : (Te t).length = 3 := rfl
theorem flatMap_three {α : Type} (f : α → List Value) (h : ∀ x, (f x).length = 3) (l : List α) : (l.flatMap f).length = 3 * l.length := by
  induction l with
  | nil => rfl
  | cons x l ih => rw [List.flatMap_cons, List.length_append, h, ih, List.length_cons]; omega
theorem three_get (F : Nat → Th) (n k j : Nat) (hk : k < n) (hj : j < 3) (rest : List Value) : ((List.range n).flatMap (fun i => Te (F i)) ++ rest)[k * 3 + j]? = (Te (F k))[j]? := by
  have hl : ((List.range n).flatMap (fun i => Te (F i))).length = 3 * n := by rw [flatMap_three _ (fun i => te_len (F i)), List.length_range]
  rw [List.getElem?_append_left (by rw [hl]; omega)]
  obtain ⟨u, hu⟩ : ∃ u, (Te (F k))[j]? = some u := ⟨(Te (F k))[j]'(by rw [te_len]; exact hj), List.getElem?_eq_getElem _⟩
  rw [hu]
  exact flatMap_get (enc := fun i => Te (F i)) (sz := 3) (fun i => te_len (F i)) (l := List.range n) (i := k) (x := k) (by simp [hk]) hj hu
/-- Block g begins with n things. -/
def Trow (w : World) (g n : Nat) (F : Nat → Th) : Prop := ∃ rest, w.heap[g]? = some (.cells ((List.range n).flatMap (fun k => Te (F k)) ++ rest).toArray 119 (0, 0))
theorem Trow.cell {w : World} {g n : Nat} {F : Nat → Th} (h : Trow w g n F) (k j : Nat) (hk : k < n) (hj : j < 3) : w.cell? ⟨g, k * 3 + j, none⟩ = (Te (F k))[j]? := by
  obtain ⟨rest, h⟩ := h
  rw [cell_of h]
  simp only [List.getElem?_toArray]
  exact three_get F n k j hk hj rest
theorem Trow.c0 {w : World} {g n : Nat} {F : Nat → Th} (h : Trow w g n F) (k : Nat) (hk : k < n) : w.cell? ⟨g, k * 3, none⟩ = some (.int .i64 ((F k).w : Int)) := h.cell k 0 hk (by omega)
theorem Trow.c1 {w : World} {g n : Nat} {F : Nat → Th} (h : Trow w g n F) (k : Nat) (hk : k < n) : w.cell? ⟨g, k * 3 + 1, none⟩ = some (.int .i64 ((F k).s : Int)) := h.cell k 1 hk (by omega)
theorem Trow.c2 {w : World} {g n : Nat} {F : Nat → Th} (h : Trow w g n F) (k : Nat) (hk : k < n) : w.cell? ⟨g, k * 3 + 2, none⟩ = some (.pointer (F k).two) := h.cell k 2 hk (by omega)
theorem Trow.fz {w : World} {g n : Nat} {F : Nat → Th} (h : Trow w g n F) (i : Nat) : w.frozen? ⟨g, i, none⟩ = false := by
  obtain ⟨rest, h⟩ := h
  exact free_of h i
theorem Trow.lt {w : World} {g n : Nat} {F : Nat → Th} (h : Trow w g n F) : g < w.heap.size := by
  obtain ⟨rest, h⟩ := h
  exact lt_of h
theorem Trow.to {w w' : World} {g n : Nat} {F : Nat → Th} {l : List Nat} (h : Trow w g n F) (k : Fr l w w') (hb : g ∉ l) : Trow w' g n F := by
  obtain ⟨rest, h⟩ := h
  exact ⟨rest, k.blk h hb⟩
theorem Trow.congr {w : World} {g n : Nat} {F G : Nat → Th} (h : Trow w g n F) (hG : ∀ j, j < n → G j = F j) : Trow w g n G := by
  obtain ⟨rest, h⟩ := h
  refine ⟨rest, ?_⟩
  rw [h]
  congr 4
  have : ∀ l : List Nat, (∀ j ∈ l, j < n) → l.flatMap (fun k => Te (F k)) = l.flatMap (fun k => Te (G k)) := by
    intro l
    induction l with
    | nil => intro _; rfl
    | cons x l ih => intro hl; rw [List.flatMap_cons, List.flatMap_cons, hG x (hl x (by simp)), ih (fun j hj => hl j (by simp [hj]))]
  exact this _ fun j hj => List.mem_range.1 hj
theorem three_set (F G : Nat → Th) (n k : Nat) (hk : k < n) (rest : List Value) (u v x : Value) (hG : ∀ j, j < n → j ≠ k → G j = F j) (hu : Te (G k) = [u, v, x]) :
    ((((List.range n).flatMap (fun i => Te (F i)) ++ rest).set (k * 3) u).set (k * 3 + 1) v).set (k * 3 + 2) x = (List.range n).flatMap (fun i => Te (G i)) ++ rest := by
  have hl : ∀ F : Nat → Th, ((List.range n).flatMap (fun i => Te (F i))).length = 3 * n := fun F => by rw [flatMap_three _ (fun i => te_len (F i)), List.length_range]
  apply List.ext_getElem?
  intro i
  by_cases hi : i < 3 * n
  · have e : i = i / 3 * 3 + i % 3 := by omega
    have hq : i / 3 < n := by omega
    have hr : i % 3 < 3 := by omega
    generalize i / 3 = q at *
    generalize i % 3 = r at *
    subst e
    rw [three_get G n q r hq hr]
    by_cases hqk : q = k
    · subst hqk
      rw [hu]
      rcases (show r = 0 ∨ r = 1 ∨ r = 2 by omega) with rfl | rfl | rfl
      · rw [List.getElem?_set_ne (by omega), List.getElem?_set_ne (by omega), Nat.add_zero, List.getElem?_set_self (by rw [List.length_append, hl]; omega)]; rfl
      · rw [List.getElem?_set_ne (by omega), List.getElem?_set_self (by rw [List.length_set, List.length_append, hl]; omega)]; rfl
      · rw [List.getElem?_set_self (by rw [List.length_set, List.length_set, List.length_append, hl]; omega)]; rfl
    · rw [List.getElem?_set_ne (by omega), List.getElem?_set_ne (by omega), List.getElem?_set_ne (by omega), three_get F n q r hq hr, hG q hq hqk]
  · rw [List.getElem?_set_ne (by omega), List.getElem?_set_ne (by omega), List.getElem?_set_ne (by omega), List.getElem?_append_right (by rw [hl]; omega), List.getElem?_append_right (by rw [hl]; omega), hl, hl]
/-- A thing is written. -/
def putTh (w : World) (g k : Nat) (t : Th) : World := ((w.setCell ⟨g, k * 3, none⟩ (.int .i64 (t.w : Int))).setCell ⟨g, k * 3 + 1, none⟩ (.int .i64 (t.s : Int))).setCell ⟨g, k * 3 + 2, none⟩ (.pointer t.two)
theorem Trow.put {w : World} {g n : Nat} {F : Nat → Th} (h : Trow w g n F) (k : Nat) (hk : k < n) (t : Th) : Trow (putTh w g k t) g n (fun j => if j = k then t else F j) := by
  obtain ⟨rest, h⟩ := h
  refine ⟨rest, ?_⟩
  unfold putTh
  rw [set_of (set_of (set_of h _ _) _ _) _ _]
  congr 2
  apply Array.ext'
  simp only [List.setIfInBounds_toArray]
  exact three_set F _ n k hk rest _ _ _ (fun j hj hjk => by simp [hjk]) (by simp [Te])
theorem putTh_fr (w : World) (g k : Nat) (t : Th) : Fr [g] w (putTh w g k t) := ((Fr.setCell _ g _ _).trans (Fr.setCell _ g _ _)).trans (Fr.setCell _ g _ _)
/-- Two are exchanged. -/
def swapF {α : Type} (F : Nat → α) (i j k : Nat) : α := if k = i then F j else if k = j then F i else F k
theorem Trow.swap {w : World} {g n : Nat} {F : Nat → Th} (h : Trow w g n F) (i j : Nat) (hi : i < n) (hj : j < n) : Trow (putTh (putTh w g i (F j)) g j (F i)) g n (swapF F i j) := by
  refine ((h.put i hi (F j)).put j hj (F i)).congr fun k hk => ?_
  unfold swapF
  by_cases h1 : k = i
  · subst h1
    by_cases h2 : k = j
    · subst h2; simp
    · simp [h2]
  · by_cases h2 : k = j
    · subst h2; simp [h1]
    · simp [h1, h2]

/-- A step at a store, whose run is known. -/
theorem step_store_run {P : Program} {ops : Array Oper} {o : Oper} {a : Act} {w : World} {K : Act → World → Prop} {Q : Exit → Act → World → Prop} {E : Prop} (hgd : o.guard = none) (x y : Operand) (t : TypeId)
    (ho : o.op = .store t x y) {v u : Value} {w' : World} (hx : a.eval x = v) (hy : a.eval y = u)
    (hr : (Instr.storeAt t v u).run P w = .ok () w') (h : K (a.put o.dst undef) w') : if Region.wanted o (yielded ops a.tmps) = true then Oper.wp P o a w K Q else E := by
  have hw : Region.wanted o (yielded ops a.tmps) = true := by simp [Region.wanted, hgd]
  rw [if_pos hw]
  unfold Oper.wp execOp
  simp only [ho, Sem.run_bind, Sem.run_pure, hx, hy, hr, Result.andThen_ok]
  exact h
theorem wpList_store_run {P : Program} {ops : Array Oper} {rest : List Oper} {o : Oper} {a : Act} {w : World} {Q : Exit → Act → World → Prop} (hgd : o.guard = none) (x y : Operand) (t : TypeId)
    (ho : o.op = .store t x y) {v u : Value} {w' : World} (hx : a.eval x = v) (hy : a.eval y = u)
    (hr : (Instr.storeAt t v u).run P w = .ok () w') (h : wpList P ops Q rest (a.put o.dst undef) w') : wpList P ops Q (o :: rest) a w := by
  refine wpList_plain hgd fun K hK => ?_
  unfold Oper.wp execOp
  simp only [ho, Sem.run_bind, Sem.run_pure, hx, hy, hr, Result.andThen_ok]
  exact hK _ _ h
/-- Two ranges of m are exchanged. -/
def swapR {α : Type} (F : Nat → α) (a b m k : Nat) : α := if a ≤ k ∧ k < a + m then F (k - a + b) else if b ≤ k ∧ k < b + m then F (k - b + a) else F k
theorem swapR_succ {α : Type} (F : Nat → α) (a b m k : Nat) (h : a + m < b + 0 ∨ a + (m + 1) ≤ b) : swapF (swapR F a b m) (a + m) (b + m) k = swapR F a b (m + 1) k := by
  unfold swapF swapR
  repeat' split
  all_goals first
    | rfl
    | (exfalso; omega)
    | (congr 1; omega)

set_option maxRecDepth 2000000 in
set_option maxHeartbeats 3200000 in
theorem swapRange_any (g n c a b m : Nat) (F : Nat → Th) (w : World) (h : Trow w g n F) (hn : n ≤ 1000) (hab : a + m ≤ b) (hb : b + m ≤ n) (cv : Value) :
    Calls Tryz.prog 107 #[.slice (some ⟨g, 0, none⟩) n c, .int .i64 (a : Int), .int .i64 (b : Int), .int .i64 (m : Int), cv] w fun e w' => e = .returned (.tuple #[]) ∧ Trow w' g n (swapR F a b m) ∧ Fr [g] w w' := by
  have i1 : (n : Int) ≤ 1000 := by omega
  have i2 : (a : Int) + (m : Int) ≤ (n : Int) := by omega
  have i3 : (b : Int) + (m : Int) ≤ (n : Int) := by omega
  have H := Lib.hid h
  clear h hn
  go_enter Tryz.func107, Tryz.ntmps107
  go_wp2_with fail
  go_loopw [10] (fun i wr => ∃ k : Nat, k ≤ m ∧ i = .int .i64 (k : Int) ∧ Trow wr g n (swapR F a b k) ∧ Fr [g] w wr) (fun i _ => m - (intOf i).toNat)
  case atStart => exact ⟨0, by omega, rfl, H.out.congr (fun j hj => by unfold swapR; rw [if_neg (by omega), if_neg (by omega)]), Fr.refl _ _⟩
  case round =>
    obtain ⟨k, hk, rfl, hT, hf⟩ := hrel
    by_cases hkm : k < m
    · have hki : (k : Int) < (m : Int) := by omega
      obtain ⟨p, hp⟩ : ∃ p, a + k = p := ⟨_, rfl⟩
      obtain ⟨q, hq⟩ : ∃ q, b + k = q := ⟨_, rfl⟩
      have ep : (a : Int) + (k : Int) = (p : Int) := by omega
      have eq_ : (b : Int) + (k : Int) = (q : Int) := by omega
      have hpn : (p : Int) < (n : Int) := by omega
      have hqn : (q : Int) < (n : Int) := by omega
      have hsw := hT.swap p q (by omega) (by omega)
      have d0 := hT.c0 p (by omega)
      have d1 := hT.c1 p (by omega)
      have d2 := hT.c2 p (by omega)
      have e0 := hT.c0 q (by omega)
      have e1 := hT.c1 q (by omega)
      have e2 := hT.c2 q (by omega)
      have g0 := hT.fz (p * 3)
      have g1 := hT.fz (p * 3 + 1)
      have g2 := hT.fz (p * 3 + 2)
      have k0 := hT.fz (q * 3)
      have k1 := hT.fz (q * 3 + 1)
      have k2 := hT.fz (q * 3 + 2)
      have hne : p ≠ q := by omega
      obtain ⟨⟨pw, ps, pt⟩, hP⟩ : ∃ x, swapR F a b k p = x := ⟨_, rfl⟩
      obtain ⟨⟨qw, qs, qt⟩, hQ⟩ : ∃ x, swapR F a b k q = x := ⟨_, rfl⟩
      rw [hP] at d0 d1 d2 hsw
      rw [hQ] at e0 e1 e2 hsw
      simp only at d0 d1 d2 e0 e1 e2
      have hfs := (putTh_fr wr g p ⟨qw, qs, qt⟩).trans (putTh_fr _ g q ⟨pw, ps, pt⟩)
      simp only [putTh] at hsw hfs
      have HS := Lib.hid (And.intro hsw (And.intro hf (And.intro hp (And.intro hq hfs))))
      clear hT hf hsw hP hQ hp hq hfs
      go_wp2_with fail
      go_region
      go_wp2_with fail
      go_roundw
      case rel =>
        refine ⟨k + 1, by omega, by go_num, ?_, ?_⟩
        · refine (HS.out.1.to (Fr.drew (Fr.refl [] _)) (by simp)).congr (fun j hj => ?_)
          have := swapR_succ F a b k j (by omega)
          rw [HS.out.2.2.1, HS.out.2.2.2.1] at this
          exact this.symm
        · exact HS.out.2.1.trans (Fr.drew HS.out.2.2.2.2)
      case measure => simp [intOf]; omega
    · have hke : k = m := by omega
      subst hke
      have HS := Lib.hid (And.intro hT hf)
      clear hT hf
      go_wp2_with fail
      refine bodyPost_end (v := .tuple #[]) (by simp [results, Tryz.results107, go_sem]) rfl ?_
      exact ⟨rfl, HS.out.1, HS.out.2⟩

/-- What stands from a on to m, and from m on to b, is exchanged. -/
def rotF {α : Type} (F : Nat → α) (a m b k : Nat) : α := if a ≤ k ∧ k < a + (b - m) then F (k - a + m) else if a + (b - m) ≤ k ∧ k < b then F (k - (b - m)) else F k
theorem rot_left {α : Type} (G : Nat → α) (m i j k : Nat) (hi : i ≤ m) (hj : 0 < j) (h : j < i) : rotF (swapR G (m - i) m j) (m - (i - j)) m (m + j) k = rotF G (m - i) m (m + j) k := by
  unfold rotF swapR
  repeat' split
  all_goals first
    | rfl
    | (exfalso; omega)
    | (congr 1; omega)
theorem rot_right {α : Type} (G : Nat → α) (m i j k : Nat) (hi : i ≤ m) (hi0 : 0 < i) (h : i < j) : rotF (swapR G (m - i) (m + j - i) i) (m - i) m (m + (j - i)) k = rotF G (m - i) m (m + j) k := by
  unfold rotF swapR
  repeat' split
  all_goals first
    | rfl
    | (exfalso; omega)
    | (congr 1; omega)
theorem rot_end {α : Type} (G : Nat → α) (m i k : Nat) (hi : i ≤ m) : swapR G (m - i) m i k = rotF G (m - i) m (m + i) k := by
  unfold rotF swapR
  repeat' split
  all_goals first
    | rfl
    | (exfalso; omega)
    | (congr 1; omega)

set_option maxRecDepth 2000000 in
set_option maxHeartbeats 3200000 in
theorem rotate_any (g n c a m b : Nat) (F : Nat → Th) (w : World) (h : Trow w g n F) (hn : n ≤ 1000) (ham : a < m) (hmb : m < b) (hb : b ≤ n) (cv : Value) :
    Calls Tryz.prog 106 #[.slice (some ⟨g, 0, none⟩) n c, .int .i64 (a : Int), .int .i64 (m : Int), .int .i64 (b : Int), cv] w fun e w' => e = .returned (.tuple #[]) ∧ Trow w' g n (rotF F a m b) ∧ Fr [g] w w' := by
  have i1 : (n : Int) ≤ 1000 := by omega
  have i2 : (a : Int) < (m : Int) := by omega
  have i3 : (m : Int) < (b : Int) := by omega
  have i4 : (b : Int) ≤ (n : Int) := by omega
  have H := Lib.hid h
  clear h hn
  go_enter Tryz.func106, Tryz.ntmps106
  go_wp2_with fail
  go_loopw [10, 11] (fun i j wr => ∃ (x y : Nat) (G : Nat → Th), 0 < x ∧ x ≤ m ∧ 0 < y ∧ m + y ≤ n ∧ i = .int .i64 (x : Int) ∧ j = .int .i64 (y : Int) ∧ Trow wr g n G ∧ (∀ k, rotF G (m - x) m (m + y) k = rotF F a m b k) ∧ Fr [g] w wr) (fun i j _ => (intOf i).toNat + (intOf j).toNat)
  case atStart =>
    refine ⟨m - a, b - m, F, by omega, by omega, by omega, by omega, ?_, ?_, H.out, fun k => ?_, Fr.refl _ _⟩
    · congr 1; omega
    · congr 1; omega
    · rw [show m - (m - a) = a by omega, show m + (b - m) = b by omega]
  case round =>
    obtain ⟨x, y, G, hx0, hxm, hy0, hyn, rfl, rfl, hT, hG, hf⟩ := hrel
    have hxi : (x : Int) ≤ (m : Int) := by omega
    have hyi : (m : Int) + (y : Int) ≤ (n : Int) := by omega
    have hx1 : 1 ≤ (x : Int) := by omega
    have hy1 : 1 ≤ (y : Int) := by omega
    have ed : (m : Int) - (x : Int) = ((m - x : Nat) : Int) := by omega
    obtain ⟨d, hd⟩ : ∃ d, m - x = d := ⟨_, rfl⟩
    rw [hd] at ed
    have HS := Lib.hid (And.intro hT (And.intro hG (And.intro hf hd)))
    by_cases hxy : x = y
    · subst hxy
      have HC := Lib.hid (swapRange_any g n c d m x G wr hT (by omega) (by omega) (by omega) cv)
      clear hT hG hf hd
      go_wp2_with fail
      refine HC.out.mono ?_
      rintro e w1 ⟨rfl, hT1, hf1⟩
      have H1 := Lib.hid (And.intro hT1 hf1)
      clear hT1 hf1
      go_wp2_with fail
      refine bodyPost_end (v := .tuple #[]) (by simp [results, Tryz.results106, go_sem]) rfl ?_
      refine ⟨rfl, H1.out.1.congr fun j hj => ?_, HS.out.2.2.1.trans H1.out.2⟩
      rw [← HS.out.2.1 j, ← HS.out.2.2.2]
      exact (rot_end G m x j hxm).symm
    · have hne : ((x : Int) == (y : Int)) = false := by simp; omega
      have hne2 : ¬ (x : Int) = (y : Int) := by omega
      by_cases hlt : y < x
      · have hlt' : (y : Int) < (x : Int) := by omega
        have HC := Lib.hid (swapRange_any g n c d m y G wr hT (by omega) (by omega) (by omega) cv)
        clear hT hG hf hd
        go_wp2_with fail
        refine HC.out.mono ?_
        rintro e w1 ⟨rfl, hT1, hf1⟩
        have H1 := Lib.hid (And.intro hT1 hf1)
        clear hT1 hf1
        go_wp2_with fail
        go_roundw
        case rel =>
          refine ⟨x - y, y, _, by omega, by omega, hy0, hyn, ?_, rfl, H1.out.1, fun k => ?_, HS.out.2.2.1.trans H1.out.2⟩
          · congr 1; omega
          · rw [← HS.out.2.1 k, ← HS.out.2.2.2]
            exact rot_left G m x y k hxm hy0 hlt
        case measure => simp [intOf]; omega
      · have hlt' : (x : Int) < (y : Int) := by omega
        have ed2 : (m : Int) + (y : Int) - (x : Int) = ((m + y - x : Nat) : Int) := by omega
        obtain ⟨d2, hd2⟩ : ∃ d2, m + y - x = d2 := ⟨_, rfl⟩
        rw [hd2] at ed2
        have HC := Lib.hid (swapRange_any g n c d d2 x G wr hT (by omega) (by omega) (by omega) cv)
        have HD2 := Lib.hid hd2
        clear hT hG hf hd hd2
        go_wp2_with fail
        refine HC.out.mono ?_
        rintro e w1 ⟨rfl, hT1, hf1⟩
        have H1 := Lib.hid (And.intro hT1 hf1)
        clear hT1 hf1
        go_wp2_with fail
        go_roundw
        case rel =>
          refine ⟨x, y - x, _, hx0, hxm, by omega, by omega, rfl, ?_, H1.out.1, fun k => ?_, HS.out.2.2.1.trans H1.out.2⟩
          · congr 1; omega
          · rw [← HS.out.2.1 k, ← HS.out.2.2.2, ← HD2.out]
            exact rot_right G m x y k hxm hx0 (by omega)
        case measure => simp [intOf]; omega
end Go.Proofs.YtciejmlhdmjajaaGreat
namespace Go.Proofs.YtciejmlhdmjajaaGreat
open Go.RowKit
set_option linter.unusedVariables false
set_option linter.unusedSimpArgs false

def cmpI (a b : Nat) : Int := if a < b then -1 else if b < a then 1 else 0
set_option maxRecDepth 2000000 in
set_option maxHeartbeats 1600000 in
theorem nan_any (a : Int) (w : World) : Calls Tryz.prog 100 #[.int .i64 a] w fun e w' => e = .returned (.bool false) ∧ w' = w := by
  go_enter Tryz.func100, Tryz.ntmps100
  go_wp2_with fail
  go_ret
  exact ⟨by simp, rfl⟩
set_option maxRecDepth 2000000 in
set_option maxHeartbeats 1600000 in
theorem compare_any (a b : Nat) (w : World) (ha : a ≤ 1000000000000000) (hb : b ≤ 1000000000000000) : Calls Tryz.prog 87 #[.int .i64 (a : Int), .int .i64 (b : Int)] w fun e w' => e = .returned (.int .i64 (cmpI a b)) ∧ Fr [] w w' := by
  have h1 : (a : Int) ≤ 1000000000000000 := by omega
  have h2 : (b : Int) ≤ 1000000000000000 := by omega
  have HA := Lib.hid (nan_any (a : Int))
  have HB := Lib.hid (nan_any (b : Int))
  by_cases hlt : a < b
  · have hl : (a : Int) < (b : Int) := by omega
    have HC := Lib.hid (show cmpI a b = -1 by unfold cmpI; rw [if_pos hlt])
    clear ha hb hlt
    go_enter Tryz.func87, Tryz.ntmps87
    go_wp2_with fail
    refine (HA.out _).mono ?_
    rintro e w1 ⟨rfl, hw1⟩
    replace hw1 := hw1.symm
    subst hw1
    go_wp2_with fail
    refine (HB.out _).mono ?_
    rintro e w2 ⟨rfl, hw2⟩
    replace hw2 := hw2.symm
    subst hw2
    go_wp2_with fail
    go_ret
    rw [HC.out]
    exact ⟨rfl, Fr.refl _ _⟩
  · by_cases hgt : b < a
    · have hl : (b : Int) < (a : Int) := by omega
      have HC := Lib.hid (show cmpI a b = 1 by unfold cmpI; rw [if_neg hlt, if_pos hgt])
      clear ha hb hlt hgt
      go_enter Tryz.func87, Tryz.ntmps87
      go_wp2_with fail
      refine (HA.out _).mono ?_
      rintro e w1 ⟨rfl, hw1⟩
      replace hw1 := hw1.symm
      subst hw1
      go_wp2_with fail
      refine (HB.out _).mono ?_
      rintro e w2 ⟨rfl, hw2⟩
      replace hw2 := hw2.symm
      subst hw2
      go_wp2_with fail
      go_ret
      rw [HC.out]
      exact ⟨rfl, Fr.refl _ _⟩
    · have he : a = b := by omega
      subst he
      have HC := Lib.hid (show cmpI a a = 0 by unfold cmpI; rw [if_neg hlt, if_neg hlt])
      clear ha hb hlt hgt
      go_enter Tryz.func87, Tryz.ntmps87
      go_wp2_with fail
      refine (HA.out _).mono ?_
      rintro e w1 ⟨rfl, hw1⟩
      replace hw1 := hw1.symm
      subst hw1
      go_wp2_with fail
      refine (HB.out _).mono ?_
      rintro e w2 ⟨rfl, hw2⟩
      replace hw2 := hw2.symm
      subst hw2
      go_wp2_with fail
      go_ret
      rw [HC.out]
      exact ⟨rfl, Fr.refl _ _⟩
def tv (t : Th) : Value := .agg #[.int .i64 (t.w : Int), .int .i64 (t.s : Int), .pointer t.two]
/-- What a function that compares things answers. -/
def CmpOk (c : FuncId) : Prop := (∀ (args : Array Value) (w : World), (callFunc c args).run Tryz.prog w = .ok (.enter c args) w) ∧ ∀ (x y : Th) (w : World), x.w ≤ 1000000000000000 → y.w ≤ 1000000000000000 → Calls Tryz.prog c #[tv x, tv y] w fun e w' => e = .returned (.int .i64 (cmpI x.w y.w)) ∧ Fr [] w w'
set_option maxRecDepth 2000000 in
set_option maxHeartbeats 1600000 in
theorem cmp_leaves : CmpOk 86 := by
  refine ⟨fun args w => by kernel_rfl, ?_⟩
  rintro ⟨a, b, c⟩ ⟨d, e, f⟩ w h1 h2
  have HC := Lib.hid (fun W => compare_any a d W h1 h2)
  unfold tv
  clear h1 h2
  go_enter Tryz.func86, Tryz.ntmps86
  go_wp2_with fail
  refine (HC.out _).mono ?_
  rintro e w1 ⟨rfl, f1⟩
  have HF := Lib.hid f1
  clear f1
  go_wp2_with fail
  go_ret
  exact ⟨rfl, ((Fr.alloc _ _ _).trans (Fr.alloc _ _ _)).trans HF.out⟩
set_option maxRecDepth 2000000 in
set_option maxHeartbeats 1600000 in
theorem cmp_merge : CmpOk 90 := by
  refine ⟨fun args w => by kernel_rfl, ?_⟩
  rintro ⟨a, b, c⟩ ⟨d, e, f⟩ w h1 h2
  have HC := Lib.hid (fun W => compare_any a d W h1 h2)
  unfold tv
  clear h1 h2
  go_enter Tryz.func90, Tryz.ntmps90
  go_wp2_with fail
  refine (HC.out _).mono ?_
  rintro e w1 ⟨rfl, f1⟩
  have HF := Lib.hid f1
  clear f1
  go_wp2_with fail
  go_ret
  exact ⟨rfl, ((Fr.alloc _ _ _).trans (Fr.alloc _ _ _)).trans HF.out⟩

/-! ### which of the things that there were stands where -/
/-- Thing x comes ahead of thing y: by weights, of one weight by places. -/
def ltS (W : Nat → Nat) (x y : Nat) : Prop := W x < W y ∨ W x = W y ∧ x < y
def SortedS (W σ : Nat → Nat) (a b : Nat) : Prop := ∀ i j, a ≤ i → i < j → j < b → ltS W (σ i) (σ j)
/-- The same from a to b, in another order; the same elsewhere. -/
def Shuf (a b : Nat) (σ τ : Nat → Nat) : Prop := (∀ k, ¬ (a ≤ k ∧ k < b) → τ k = σ k) ∧ (∀ k, a ≤ k → k < b → ∃ j, a ≤ j ∧ j < b ∧ τ k = σ j) ∧ (∀ k, a ≤ k → k < b → ∃ j, a ≤ j ∧ j < b ∧ σ k = τ j)
theorem Shuf.refl (a b : Nat) (σ : Nat → Nat) : Shuf a b σ σ := ⟨fun _ _ => rfl, fun k h1 h2 => ⟨k, h1, h2, rfl⟩, fun k h1 h2 => ⟨k, h1, h2, rfl⟩⟩
theorem Shuf.trans {a b : Nat} {σ τ ρ : Nat → Nat} (h : Shuf a b σ τ) (k : Shuf a b τ ρ) : Shuf a b σ ρ := by
  refine ⟨fun i hi => (k.1 i hi).trans (h.1 i hi), fun i h1 h2 => ?_, fun i h1 h2 => ?_⟩
  · obtain ⟨j, j1, j2, j3⟩ := k.2.1 i h1 h2
    obtain ⟨l, l1, l2, l3⟩ := h.2.1 j j1 j2
    exact ⟨l, l1, l2, j3.trans l3⟩
  · obtain ⟨j, j1, j2, j3⟩ := h.2.2 i h1 h2
    obtain ⟨l, l1, l2, l3⟩ := k.2.2 j j1 j2
    exact ⟨l, l1, l2, j3.trans l3⟩
theorem Shuf.mono {a b c d : Nat} {σ τ : Nat → Nat} (h : Shuf a b σ τ) (hc : c ≤ a) (hd : b ≤ d) : Shuf c d σ τ := by
  refine ⟨fun i hi => h.1 i (fun e => hi ⟨by omega, by omega⟩), fun i h1 h2 => ?_, fun i h1 h2 => ?_⟩
  · by_cases hi : a ≤ i ∧ i < b
    · obtain ⟨j, j1, j2, j3⟩ := h.2.1 i hi.1 hi.2
      exact ⟨j, by omega, by omega, j3⟩
    · exact ⟨i, h1, h2, h.1 i hi⟩
  · by_cases hi : a ≤ i ∧ i < b
    · obtain ⟨j, j1, j2, j3⟩ := h.2.2 i hi.1 hi.2
      exact ⟨j, by omega, by omega, j3⟩
    · exact ⟨i, h1, h2, (h.1 i hi).symm⟩
theorem Shuf.swap (a b : Nat) (σ : Nat → Nat) (i j : Nat) (hi : a ≤ i ∧ i < b) (hj : a ≤ j ∧ j < b) : Shuf a b σ (swapF σ i j) := by
  have e : ∀ k, swapF σ i j k = if k = i then σ j else if k = j then σ i else σ k := fun _ => rfl
  refine ⟨fun k hk => ?_, fun k h1 h2 => ?_, fun k h1 h2 => ?_⟩
  · rw [e, if_neg (fun h => hk (by rw [h]; exact hi)), if_neg (fun h => hk (by rw [h]; exact hj))]
  · by_cases hki : k = i
    · exact ⟨j, hj.1, hj.2, by rw [e, if_pos hki]⟩
    · by_cases hkj : k = j
      · exact ⟨i, hi.1, hi.2, by rw [e, if_neg hki, if_pos hkj]⟩
      · exact ⟨k, h1, h2, by rw [e, if_neg hki, if_neg hkj]⟩
  · by_cases hki : k = i
    · refine ⟨j, hj.1, hj.2, ?_⟩
      rw [e]
      by_cases hji : j = i
      · rw [if_pos hji, hki, hji]
      · rw [if_neg hji, if_pos rfl, hki]
    · by_cases hkj : k = j
      · exact ⟨i, hi.1, hi.2, by rw [e, if_pos rfl, hkj]⟩
      · exact ⟨k, h1, h2, by rw [e, if_neg hki, if_neg hkj]⟩
theorem swapF_comp (F : Nat → Th) (σ : Nat → Nat) (i j k : Nat) : swapF (fun k => F (σ k)) i j k = F (swapF σ i j k) := by
  unfold swapF
  repeat' split
  all_goals rfl
/-- One more is put in its place: σ before, τ behind, j where it came to. -/
theorem ins_end (W σ τ : Nat → Nat) (a i j : Nat) (haj : a ≤ j) (hji : j ≤ i) (hs : SortedS W σ a i) (htag : ∀ k, a ≤ k → k < i → σ k < σ i) (h1 : ∀ k, a ≤ k → k < j → τ k = σ k) (h2 : τ j = σ i) (h3 : ∀ k, j < k → k ≤ i → τ k = σ (k - 1) ∧ W (σ i) < W (τ k))
    (hend : j = a ∨ W (σ (j - 1)) ≤ W (σ i)) : SortedS W τ a (i + 1) := by
  intro p q hp hpq hq
  by_cases hqj : q < j
  · rw [h1 p hp (by omega), h1 q (by omega) hqj]
    exact hs p q hp hpq (by omega)
  · by_cases hqe : q = j
    · subst hqe
      rw [h1 p hp hpq, h2]
      have hw : W (σ p) ≤ W (σ (q - 1)) := by
        by_cases hpe : p = q - 1
        · rw [hpe]; exact Nat.le_refl _
        · rcases hs p (q - 1) hp (by omega) (by omega) with h | h
          · omega
          · omega
      rcases hend with h | h
      · omega
      · have := htag p hp (by omega)
        unfold ltS
        omega
    · obtain ⟨h4, h5⟩ := h3 q (by omega) (by omega)
      by_cases hpj : p < j
      · rw [h1 p hp hpj, h4]
        exact hs p (q - 1) hp (by omega) (by omega)
      · by_cases hpe : p = j
        · subst hpe
          rw [h2]
          exact .inl h5
        · obtain ⟨h6, _⟩ := h3 p (by omega) (by omega)
          rw [h4, h6]
          exact hs (p - 1) (q - 1) (by omega) (by omega) (by omega)
theorem cmp_neg {a b : Nat} (h : a < b) : cmpI a b = -1 := by unfold cmpI; rw [if_pos h]
theorem cmp_pos {a b : Nat} (h : ¬ a < b) : 0 ≤ cmpI a b ∧ cmpI a b ≤ 1 := by
  unfold cmpI
  rw [if_neg h]
  split <;> omega

set_option maxRecDepth 2000000 in
set_option maxHeartbeats 6400000 in
theorem insertion_any (q : FuncId) (hq : CmpOk q) (g n c a b : Nat) (F : Nat → Th) (σ : Nat → Nat) (w : World) (h : Trow w g n (fun k => F (σ k))) (hn : n ≤ 1000) (hab : a ≤ b) (hb : b ≤ n) (hW : ∀ k, (F k).w ≤ 1000000000000000) (htag : ∀ i j, a ≤ i → i < j → j < b → σ i < σ j) :
    Calls Tryz.prog 104 #[.slice (some ⟨g, 0, none⟩) n c, .int .i64 (a : Int), .int .i64 (b : Int), .func (.func q) #[] #[]] w fun e w' => e = .returned (.tuple #[]) ∧ Fr [g] w w' ∧ ∃ τ, Trow w' g n (fun k => F (τ k)) ∧ Shuf a b σ τ ∧ SortedS (fun k => (F k).w) τ a b := by
  have i1 : (n : Int) ≤ 1000 := by omega
  have i2 : (a : Int) ≤ (b : Int) := by omega
  have i3 : (b : Int) ≤ (n : Int) := by omega
  have H := Lib.hid (And.intro h (And.intro hq (And.intro hW htag)))
  clear h hq hW htag hn
  go_enter Tryz.func104, Tryz.ntmps104
  go_wp2_with fail
  go_loopw [8] (fun v wr => ∃ (i : Nat) (ρ : Nat → Nat), a < i ∧ (i ≤ b ∨ i = a + 1) ∧ v = .int .i64 (i : Int) ∧ Trow wr g n (fun k => F (ρ k)) ∧ (∀ k, i ≤ k → ρ k = σ k) ∧ Shuf a i σ ρ ∧ SortedS (fun k => (F k).w) ρ a i ∧ Fr [g] w wr) (fun v _ => b + 1 - (intOf v).toNat)
  case atStart =>
    refine ⟨a + 1, σ, by omega, .inr rfl, by go_num, H.out.1, fun _ _ => rfl, Shuf.refl _ _ _, fun i j h1 h2 h3 => by omega, Fr.refl _ _⟩
  case round =>
    obtain ⟨i, ρ, hai, hib, rfl, hT, hρ, hsh, hso, hf⟩ := hrel
    by_cases hlt : i < b
    · have hli : (i : Int) < (b : Int) := by omega
      have hai' : (a : Int) < (i : Int) := by omega
      have HR := Lib.hid (And.intro hT (And.intro hρ (And.intro hsh (And.intro hso hf))))
      have htg : ∀ k, a ≤ k → k < i → ρ k < ρ i := fun k h1 h2 => by
        obtain ⟨j, j1, j2, j3⟩ := hsh.2.1 k h1 h2
        rw [j3, hρ i (Nat.le_refl _)]
        exact H.out.2.2.2 j i j1 j2 hlt
      have HTG := Lib.hid htg
      clear hT hρ hsh hso hf htg
      go_wp2_with fail
      obtain ⟨wo, hwo⟩ : ∃ wo, wo = wr := ⟨wr, rfl⟩
      subst hwo
      go_loopw [9] (fun v wr => ∃ (j : Nat) (τ : Nat → Nat), a ≤ j ∧ j ≤ i ∧ v = .int .i64 (j : Int) ∧ Trow wr g n (fun k => F (τ k)) ∧ (∀ k, k < j → τ k = ρ k) ∧ τ j = ρ i ∧ (∀ k, j < k → k ≤ i → τ k = ρ (k - 1) ∧ (F (ρ i)).w < (F (τ k)).w) ∧ (∀ k, i < k → τ k = ρ k) ∧ Shuf a (i + 1) ρ τ ∧ Fr [g] wo wr) (fun v _ => (intOf v).toNat)
      case atStart => exact ⟨i, ρ, by omega, Nat.le_refl _, rfl, HR.out.1, fun _ _ => rfl, rfl, fun k h1 h2 => by omega, fun _ _ => rfl, Shuf.refl _ _ _, Fr.refl _ _⟩
      case round =>
        obtain ⟨j, τ, haj, hji, rfl, hT, t1, t2, t3, t4, hsh, hf⟩ := hrel
        by_cases hja : a < j
        · obtain ⟨r, rfl⟩ : ∃ r, r = j := ⟨j, rfl⟩
          obtain ⟨p, hr⟩ : ∃ p, p + 1 = r := ⟨r - 1, by omega⟩
          have hjai : (a : Int) < (r : Int) := by omega
          have hpn : (r : Int) < (n : Int) := by omega
          have ep : (r : Int) - 1 = (p : Int) := by omega
          have hp0 : (p : Int) < (n : Int) := by omega
          have hcm := fun W => H.out.2.1.2 (F (τ r)) (F (τ p)) W (H.out.2.2.1 _) (H.out.2.2.1 _)
          have d0 := hT.c0 r (by omega)
          have d1 := hT.c1 r (by omega)
          have d2 := hT.c2 r (by omega)
          have e0 := hT.c0 p (by omega)
          have e1 := hT.c1 p (by omega)
          have e2 := hT.c2 p (by omega)
          have hne : r ≠ p := by omega
          have hgl := hT.lt
          have hwd : (F (τ r)).w = (F (ρ i)).w := by rw [t2]
          have hwp : (F (τ p)).w = (F (ρ p)).w := by rw [t1 p (by omega)]
          obtain ⟨⟨pw, ps, pt⟩, hP⟩ : ∃ x, F (τ r) = x := ⟨_, rfl⟩
          obtain ⟨⟨qw, qs, qt⟩, hQ⟩ : ∃ x, F (τ p) = x := ⟨_, rfl⟩
          simp only [hP, hQ] at d0 d1 d2 e0 e1 e2 hcm hwd hwp
          have HS := Lib.hid (And.intro hT (And.intro t1 (And.intro t2 (And.intro t3 (And.intro t4 (And.intro hsh (And.intro hf (And.intro hP (And.intro hQ (And.intro hwd hwp))))))))))
          unfold tv at hcm
          have HC := Lib.hid hcm
          have HPR := Lib.hid hr
          clear hT t1 t2 t3 t4 hsh hf hwd hwp hcm hP hQ hr
          by_cases hcl : pw < qw
          · rw [cmp_neg hcl] at HC
            have HCL := Lib.hid hcl
            clear hcl
            go_wp2_with fail
            refine wp_region_quiet_tail 14 (by kernel_rfl) (by kernel_rfl) ?_
            simp only [List.take_succ_cons, List.take_zero, List.drop_succ_cons, List.drop_zero]
            repeat go_big_quiet_step (fail)
            refine wpQuiet_nil ?_
            have hen := H.out.2.1.1
            go_wp2_with fail
            refine (HC.out _).mono ?_
            rintro e w5 ⟨rfl, f5⟩
            have hf5 := (Fr.drew (Fr.refl [] wr)).trans f5
            have hT5 := HS.out.1.to hf5 (by simp)
            have hsw := hT5.swap r p (by omega) (by omega)
            have x0 := hT5.c0 r (by omega)
            have x1 := hT5.c1 r (by omega)
            have x2 := hT5.c2 r (by omega)
            have y0 := hT5.c0 p (by omega)
            have y1 := hT5.c1 p (by omega)
            have y2 := hT5.c2 p (by omega)
            have z0 := hT5.fz (r * 3)
            have z1 := hT5.fz (r * 3 + 1)
            have z2 := hT5.fz (r * 3 + 2)
            have v0 := hT5.fz (p * 3)
            have v1 := hT5.fz (p * 3 + 1)
            have v2 := hT5.fz (p * 3 + 2)
            simp only [HS.out.2.2.2.2.2.2.2.1, HS.out.2.2.2.2.2.2.2.2.1] at x0 x1 x2 y0 y1 y2 hsw
            have hfs := (putTh_fr w5 g r ⟨qw, qs, qt⟩).trans (putTh_fr _ g p ⟨pw, ps, pt⟩)
            simp only [putTh] at hsw hfs
            have H5 := Lib.hid (And.intro hsw (hf5.nil.trans hfs))
            clear hf5 hT5 hsw hfs f5 hen d0 d1 d2 e0 e1 e2
            go_wp2_with fail
            go_region
            go_wp2_with fail
            go_roundw
            case rel =>
              obtain ⟨hT, t1, t2, t3, t4, hsh, hf, hP, hQ, hwd, hwp⟩ := HS.out
              have hpr := HPR.out
              have es : ∀ k, swapF τ r p k = if k = r then τ p else if k = p then τ r else τ k := fun _ => rfl
              refine ⟨p, swapF τ r p, by omega, by omega, rfl, ?_, ?_, ?_, ?_, ?_, ?_, ?_⟩
              · exact (H5.out.1.to (Fr.drew (Fr.refl [] _)) (by simp)).congr (fun k hk => (swapF_comp F τ r p k).symm)
              · intro k hk
                rw [es, if_neg (by omega), if_neg (by omega), t1 k (by omega)]
              · rw [es, if_neg (by omega), if_pos rfl, t2]
              · intro k h1 h2
                rw [es]
                by_cases hkr : k = r
                · rw [if_pos hkr, t1 p (by omega), hkr, show r - 1 = p by omega]
                  exact ⟨rfl, by rw [← hwd, ← hwp]; exact HCL.out⟩
                · rw [if_neg hkr, if_neg (by omega)]
                  exact t3 k (by omega) h2
              · intro k hk
                rw [es, if_neg (by omega), if_neg (by omega)]
                exact t4 k hk
              · exact hsh.trans (Shuf.swap a (i + 1) τ r p (by omega) (by omega))
              · exact hf.trans (Fr.drew H5.out.2)
            case measure => simp [intOf]; omega
          · obtain ⟨hc0, hc1⟩ := cmp_pos hcl
            obtain ⟨cr, hcr⟩ : ∃ cr, cmpI pw qw = cr := ⟨_, rfl⟩
            rw [hcr] at HC hc0 hc1
            have HCL := Lib.hid hcl
            clear hcl hcr
            go_wp2_with fail
            refine wp_region_quiet_tail 14 (by kernel_rfl) (by kernel_rfl) ?_
            simp only [List.take_succ_cons, List.take_zero, List.drop_succ_cons, List.drop_zero]
            repeat go_big_quiet_step (fail)
            refine wpQuiet_nil ?_
            have hen := H.out.2.1.1
            go_wp2_with fail
            refine (HC.out _).mono ?_
            rintro e w5 ⟨rfl, f5⟩
            have H5 := Lib.hid ((Fr.drew (Fr.refl [] wr)).trans f5)
            clear f5 hen
            go_wp2_with fail
            go_roundw
            case rel =>
              obtain ⟨hT, t1, t2, t3, t4, hsh, hf, hP, hQ, hwd, hwp⟩ := HS.out
              have hpr := HPR.out
              obtain ⟨oT, oρ, osh, oso, of⟩ := HR.out
              refine ⟨i + 1, τ, by omega, .inl (by omega), by go_num, ?_, ?_, (osh.mono (Nat.le_refl _) (by omega)).trans hsh, ?_, ?_⟩
              · exact hT.to H5.out (by simp)
              · intro k hk
                rw [t4 k (by omega), oρ k (by omega)]
              · refine ins_end _ ρ τ a i r haj hji oso HTG.out (fun k _ h2 => t1 k h2) t2 t3 (.inr ?_)
                show (F (ρ (r - 1))).w ≤ (F (ρ i)).w
                rw [show r - 1 = p by omega, ← hwd, ← hwp]
                exact Nat.le_of_not_lt HCL.out
              · exact of.trans (hf.trans H5.out.nil)
            case measure => simp [intOf]; omega
        · have hje : j = a := by omega
          subst hje
          have HS := Lib.hid (And.intro hT (And.intro t1 (And.intro t2 (And.intro t3 (And.intro t4 (And.intro hsh hf))))))
          have hdn : decide ((j : Int) < (j : Int)) = false := by simp
          clear hT t1 t2 t3 t4 hsh hf
          go_wp2_with fail
          go_quiet (fail)
          go_wp2_with fail
          go_roundw
          case rel =>
            obtain ⟨hT, t1, t2, t3, t4, hsh, hf⟩ := HS.out
            obtain ⟨oT, oρ, osh, oso, of⟩ := HR.out
            refine ⟨i + 1, τ, by omega, .inl (by omega), by go_num, ?_, ?_, (osh.mono (Nat.le_refl _) (by omega)).trans hsh, ?_, ?_⟩
            · exact hT.to (Fr.drewN [] _ _) (by simp)
            · intro k hk
              rw [t4 k (by omega), oρ k (by omega)]
            · exact ins_end _ ρ τ j i j (Nat.le_refl _) hji oso HTG.out (fun k _ h2 => t1 k h2) t2 t3 (.inl rfl)
            · exact of.trans (hf.trans (Fr.drewN _ _ _))
          case measure => simp [intOf]; omega
    · have hend : Shuf a b σ ρ ∧ SortedS (fun k => (F k).w) ρ a b := by
        rcases hib with h | h
        · have : i = b := by omega
          subst this
          exact ⟨hsh, hso⟩
        · by_cases hbi : i = b
          · subst hbi
            exact ⟨hsh, hso⟩
          · have hba : a = b := by omega
            refine ⟨?_, fun p q h1 h2 h3 => by omega⟩
            refine ⟨fun k hk => ?_, fun k h1 h2 => by omega, fun k h1 h2 => by omega⟩
            by_cases hki : i ≤ k
            · exact hρ k hki
            · by_cases hka : k = a
              · obtain ⟨j, j1, j2, j3⟩ := hsh.2.1 k (by omega) (by omega)
                rw [j3, show j = k by omega]
              · exact hsh.1 k (by omega)
      have HS := Lib.hid (And.intro hT (And.intro hend hf))
      have hli : (b : Int) ≤ (i : Int) := by omega
      clear hT hρ hsh hso hf hend
      go_wp2_with fail
      refine bodyPost_end (v := .tuple #[]) (by simp [results, Tryz.results104, go_sem]) rfl ?_
      exact ⟨rfl, HS.out.2.2, ρ, HS.out.1, HS.out.2.1⟩
end Go.Proofs.YtciejmlhdmjajaaGreat

