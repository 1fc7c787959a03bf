/- Slices of whole numbers that come in, as lists. leaves: the symbols that count, by rising counts. merge: leaves and packages in one row. meet: each leaf of a package lengthens its symbol's code by one. -/
import Derived.Test.YtciejmlhdmjajaaKBa
import Derived.Test.YtciejmlhdmjajaaKSl
import Derived.Test.YtciejmlhdmjajaaKHh
import Derived.Test.YtciejmlhdmjajaaKSg
import Derived.ChangeSlices
import Derived.OpenShut
import Derived.OwnWalk
namespace Go.Proofs.Ytciejmlhdmjajaa
open Go.RowKit
set_option linter.unusedVariables false
set_option linter.unusedSimpArgs false

/-- A whole number's cell, of an unsigned kind, of any kind. -/
def Un (k : IntKind) (n : Nat) : List Value := [.int k (n : Int)]
def Zn (k : IntKind) (n : Int) : List Value := [.int k n]
open Go.ChangeShapes Go.WideShapes Go.Deep in
theorem open_zs {H : Type} {henc : TypeId × Value → H} {P : Program} {w : World} {t e : TypeId} {k : IntKind} {v : Value} {d : DataW H} {ps : List MemPlace} {b0 : Nat} {r : Reach}
    (ht : P.underlying t = some (.slice e)) (he : P.underlying e = some (.int k)) (hC : P.cellsOf e = 1) (hval : Value.okWide P w r b0 t v) (hd : DataW.Trod henc P w 0 (fun _ => true) true t v d ps) :
    ∃ a0 cap, ∃ xs : List Int, v = .slice a0 xs.length cap ∧ xs.length ≤ maxLen ∧ SlOf (Zn k) 1 w a0 xs ∧ ∀ x, x ∈ xs → (Lit.int k x).wf = true := by
  obtain ⟨a0, len, cap, rfl⟩ := okWide_slice ht hval
  obtain ⟨fuel, hf⟩ := hd
  rcases open_ints ht he hC hf with ⟨hcs, hx⟩ | ⟨a, len', cap', zs, hcs, _, hl, hm, hz, hx, hi, hw⟩
  · simp [Value.cells] at hcs
    obtain ⟨rfl, rfl, rfl⟩ := hcs
    exact ⟨none, 0, [], rfl, by simp [maxLen], fun h => absurd rfl h, fun x hx => by cases hx⟩
  · simp [Value.cells] at hcs
    obtain ⟨rfl, rfl, rfl⟩ := hcs
    have hzl : zs.length = cap := by simpa using hz
    have htl : (zs.take len).length = len := by rw [List.length_take]; omega
    refine ⟨some a, cap, zs.take len, by rw [htl], by rw [htl]; omega, fun hne => ?_, fun x hx => hw x (List.mem_of_mem_take hx)⟩
    have hpos : 0 < len := by
      rcases Nat.eq_zero_or_pos len with h | h
      · exact absurd (by rw [h]; rfl) hne
      · exact h
    have h0 := hi 0 (by omega)
    have hlt := block_lt_of_cell h0
    obtain ⟨b, o, sp⟩ := a
    have hsp : sp = none := by
      cases sp with
      | none => rfl
      | some s =>
        simp [Addr.add, World.cell?] at h0
        split at h0 <;> simp_all
    subst hsp
    refine ⟨b, o, rfl, by simpa [Addr.add] using hlt, fun i x hi' j u hu => ?_⟩
    have hj : j = 0 := by
      have := (List.getElem?_eq_some_iff.1 hu).1
      simp [Zn] at this
      exact this
    subst hj
    have hil := (List.getElem?_eq_some_iff.1 hi').1
    rw [htl] at hil
    have := hi i (by omega)
    rw [add_none] at this
    simp [Zn] at hu
    subst hu
    rw [Nat.mul_one, Nat.add_zero, this]
    rw [List.getElem?_take_of_lt hil] at hi'
    simp [List.getD, hi']
theorem nat_row {k : IntKind} {w : World} {a0 : Option Addr} {xs : List Int} (h : SlOf (Zn k) 1 w a0 xs) (hx : ∀ x ∈ xs, 0 ≤ x) : SlOf (Un k) 1 w a0 (xs.map Int.toNat) := fun hne => by
  obtain ⟨b, o, h1, h2, h3⟩ := h (by intro e; rw [e] at hne; exact hne rfl)
  refine ⟨b, o, h1, h2, fun i x hi j u hu => ?_⟩
  rw [List.getElem?_map, Option.map_eq_some_iff] at hi
  obtain ⟨y, hy, rfl⟩ := hi
  refine h3 i y hy j u ?_
  have := hx y (List.mem_of_getElem? hy)
  unfold Un at hu
  rw [show ((y.toNat : Nat) : Int) = y by omega] at hu
  exact hu
set_option maxRecDepth 100000 in
open Go.ChangeShapes Go.WideShapes in
theorem open_u8s {H : Type} {henc : TypeId × Value → H} {w : World} {v : Value} {d : DataW H} {ps : List MemPlace} {b0 : Nat} {r : Reach}
    (hval : Value.okWide Try.prog w r b0 25 v) (hd : DataW.Trod henc Try.prog w 0 (fun _ => true) true 25 v d ps) :
    ∃ a0 cap, ∃ xs : List Nat, v = .slice a0 xs.length cap ∧ xs.length ≤ maxLen ∧ SlOf (Un .u8) 1 w a0 xs ∧ ∀ x, x ∈ xs → x < 256 := by
  obtain ⟨a0, cap, xs, h1, h2, h3, h4⟩ := open_zs Try.underlying25 Try.underlying5 (by kernel_rfl) hval hd
  have hb : ∀ x ∈ xs, 0 ≤ x ∧ x ≤ 255 := fun x hx => by have := h4 x hx; simp [Lit.wf, IntKind.min, IntKind.max, IntKind.signed, IntKind.bits] at this; omega
  refine ⟨a0, cap, xs.map Int.toNat, by rw [List.length_map]; exact h1, by rw [List.length_map]; exact h2, nat_row h3 (fun x hx => (hb x hx).1), fun x hx => ?_⟩
  obtain ⟨y, hy, rfl⟩ := List.mem_map.1 hx
  have := hb y hy
  omega
set_option maxRecDepth 100000 in
open Go.ChangeShapes Go.WideShapes in
set_option maxRecDepth 100000 in
open Go.ChangeShapes Go.WideShapes in
set_option maxRecDepth 100000 in
open Go.ChangeShapes Go.WideShapes in
theorem open_i64s {H : Type} {henc : TypeId × Value → H} {w : World} {v : Value} {d : DataW H} {ps : List MemPlace} {b0 : Nat} {r : Reach}
    (hval : Value.okWide Try.prog w r b0 63 v) (hd : DataW.Trod henc Try.prog w 0 (fun _ => true) true 63 v d ps) :
    ∃ a0 cap, ∃ xs : List Int, v = .slice a0 xs.length cap ∧ xs.length ≤ maxLen ∧ SlOf (Zn .i64) 1 w a0 xs ∧ ∀ x, x ∈ xs → -9223372036854775808 ≤ x ∧ x ≤ 9223372036854775807 := by
  obtain ⟨a0, cap, xs, h1, h2, h3, h4⟩ := open_zs Try.underlying63 Try.underlying3 (by kernel_rfl) hval hd
  exact ⟨a0, cap, xs, h1, h2, h3, fun x hx => by have := h4 x hx; simp [Lit.wf, IntKind.min, IntKind.max, IntKind.signed, IntKind.bits] at this; omega⟩
end Go.Proofs.Ytciejmlhdmjajaa
namespace Go.Proofs.Ytciejmlhdmjajaa
open Go.RowKit
set_option linter.unusedVariables false
set_option linter.unusedSimpArgs false

theorem elemT : Elem Try.prog 96 102 3 24 := by
  refine ⟨Try.underlying96, ?_⟩
  obtain ⟨i0, hi, hz0, hz1, hz2⟩ := info_parts (show (Try.prog.info? 102).map (fun i => (i.zero, i.size, i.bytes)) = some (some (.agg #[.int .i64 0, .int .i64 0, .pointer none]), 3, 24) by kernel_rfl)
  exact ⟨i0, _, hi, hz0, hz1, hz2, rfl, by decide⟩
/-- The symbols that count, as they stand: the first of them has number s. -/
def leafL : Nat → List Int → List Th
  | _, [] => []
  | s, c :: xs => if 0 < c then ⟨c.toNat, s, none⟩ :: leafL (s + 1) xs else leafL (s + 1) xs
theorem leafL_snoc (c : Int) : ∀ (xs : List Int) (s : Nat), leafL s (xs ++ [c]) = leafL s xs ++ if 0 < c then [⟨c.toNat, s + xs.length, none⟩] else []
  | [], s => by simp [leafL]
  | x :: xs, s => by
    have ih := leafL_snoc c xs (s + 1)
    rw [List.cons_append, leafL, leafL, ih, List.length_cons, show s + 1 + xs.length = s + (xs.length + 1) by omega]
    by_cases h : 0 < x
    · rw [if_pos h, if_pos h, List.cons_append]
    · rw [if_neg h, if_neg h]
theorem leafL_len : ∀ (xs : List Int) (s : Nat), (leafL s xs).length ≤ xs.length
  | [], s => by simp [leafL]
  | x :: xs, s => by
    have ih := leafL_len xs (s + 1)
    rw [leafL]
    split <;> simp <;> omega
theorem leafL_w : ∀ (xs : List Int) (s : Nat) (h : ∀ x ∈ xs, x ≤ 1073741824), ∀ t ∈ leafL s xs, t.w ≤ 1073741824
  | [], s, _, t, ht => by simp [leafL] at ht
  | x :: xs, s, h, t, ht => by
    have ih := leafL_w xs (s + 1) (fun y hy => h y (by simp [hy])) t
    have hx := h x (by simp)
    rw [leafL] at ht
    split at ht
    · rcases List.mem_cons.1 ht with rfl | h1
      · simp only; omega
      · exact ih h1
    · exact ih ht
/-- A count that may not be. -/
def badC (xs : List Int) : Prop := 320 < xs.length ∨ ∃ x ∈ xs, x < 0 ∨ 1073741824 < x
def th0 : Th := ⟨0, 0, none⟩
def rowF (l : List Th) (k : Nat) : Th := l.getD k th0
theorem rowF_all (l : List Th) : (List.range l.length).flatMap (fun k => Te (rowF l k)) = l.flatMap Te := by
  have : l = (List.range l.length).map (rowF l) := by
    apply List.ext_getElem?
    intro i
    by_cases hi : i < l.length
    · simp [hi, rowF]
    · rw [List.getElem?_eq_none (by omega), List.getElem?_eq_none (by simp; omega)]
  conv => rhs; rw [this]
  rw [List.flatMap_map]
theorem rowF_w (l : List Th) (B : Nat) (h : ∀ t ∈ l, t.w ≤ B) (k : Nat) : (rowF l k).w ≤ B := by
  unfold rowF
  rw [List.getD_eq_getElem?_getD]
  cases hk : l[k]? with
  | none => simp [th0]
  | some t => exact h t (List.mem_of_getElem? hk)
/-- An own row of things: none, or a block that begins with them. -/
theorem trow_own {w : World} {B : Nat} {v : Value} {n : Nat} {l : List Th} (h : w.ownsRow B 102 3 v n (l.flatMap Te)) (hn : n = l.length) : (v = .slice none 0 0 ∧ l = []) ∨ ∃ g cap, v = .slice (some ⟨g, 0, none⟩) l.length cap ∧ B ≤ g ∧ l.length ≤ cap ∧ Trow w g l.length (rowF l) := by
  subst hn
  rcases h.2 with ⟨rfl, h0⟩ | ⟨g, cap, cur, rfl, hb, hg, hc, hm, hs, ht⟩
  · exact .inl ⟨rfl, List.eq_nil_of_length_eq_zero h0⟩
  · refine .inr ⟨g, cap, rfl, hb, hc, cur.toList.drop (l.length * 3), ?_⟩
    rw [hg, rowF_all, ← ht, List.take_append_drop]

set_option maxRecDepth 2000000 in
set_option maxHeartbeats 3200000 in
theorem sort_nil (q : FuncId) (w : World) : Calls Try.prog 72 #[.slice none 0 0, .func (.func q) #[] #[]] w fun e w' => e = .returned (.tuple #[]) ∧ w' = w := by
  have H1 := Lib.hid (show Calls Try.prog 94 #[.slice none 0 0, .int .i64 0, .int .i64 0, .func (.func q) #[] #[]] w fun e w' => e = .returned (.tuple #[]) ∧ w' = w by
    go_enter Try.func94, Try.ntmps94
    go_wp2_with fail
    go_loopw [8] (fun v wr => v = .int .i64 1 ∧ wr = w) (fun _ _ => 0)
    case atStart => exact ⟨rfl, rfl⟩
    case round =>
      obtain ⟨rfl, hw⟩ := hrel
      replace hw := hw.symm
      subst hw
      go_wp2_with fail
      go_end0
      exact ⟨rfl, rfl⟩)
  have H2 := Lib.hid (show Calls Try.prog 85 #[.slice none 0 0, .int .i64 0, .func (.func q) #[] #[]] w fun e w' => e = .returned (.tuple #[]) ∧ w' = w by
    go_enter Try.func85, Try.ntmps85
    go_wp2_with fail
    go_loopw [7, 8] (fun u v wr => u = .int .i64 0 ∧ v = .int .i64 20 ∧ wr = w) (fun _ _ _ => 0)
    case atStart => exact ⟨rfl, rfl, rfl⟩
    case round =>
      obtain ⟨rfl, rfl, hw⟩ := hrel
      replace hw := hw.symm
      subst hw
      go_wp2_with fail
      refine H1.out.mono ?_
      rintro e w1 ⟨rfl, hw⟩
      replace hw := hw.symm
      subst hw
      go_wp2_with fail
      go_loopw [6, 7, 8] (fun x u v wr => x = .int .i64 20 ∧ wr = w) (fun _ _ _ _ => 0)
      case atStart => exact ⟨rfl, rfl⟩
      case round =>
        obtain ⟨rfl, hw⟩ := hrel
        replace hw := hw.symm
        subst hw
        go_wp2_with fail
        go_end0
        exact ⟨rfl, rfl⟩)
  go_enter Try.func72, Try.ntmps72
  go_wp2_with fail
  refine H2.out.mono ?_
  rintro e w1 ⟨rfl, hw⟩
  replace hw := hw.symm
  subst hw
  go_wp2_with fail
  go_end0
  exact ⟨rfl, rfl⟩

/-- A row in order: of what things, where it lies. -/
def InOrder (w : World) (v : Value) (B : Nat) (l : List Th) : Prop := (v = .slice none 0 0 ∧ l = []) ∨ ∃ g cap τ, v = .slice (some ⟨g, 0, none⟩) l.length cap ∧ B ≤ g ∧ l.length ≤ cap ∧ Trow w g l.length (fun k => rowF l (τ k)) ∧ Shuf 0 l.length id τ ∧ SortedS (fun k => (rowF l k).w) τ 0 l.length

set_option maxRecDepth 2000000 in
set_option maxHeartbeats 6400000 in
theorem leaves_any (a : Option Addr) (c : Nat) (l : List Int) (w : World) (hs : SlOf (Zn .i64) 1 w a l) (hl : l.length ≤ 9223372036854775807) :
    Calls Try.prog 45 #[.slice a l.length c] w fun e w' => Fr [] w w' ∧ (badC l ∧ e = .returned (.tuple #[.slice none 0 0, .bool false]) ∨ ¬ badC l ∧ ∃ v, e = .returned (.tuple #[v, .bool true]) ∧ InOrder w' v w.heap.size (leafL 0 l)) := by
  have HS := Lib.hid hs
  have hl1 : (l.length : Int) ≤ 9223372036854775807 := by omega
  clear hs hl
  by_cases hbig : 320 < l.length
  · have h1 : (320 : Int) < (l.length : Int) := by omega
    have HB := Lib.hid hbig
    clear hbig
    go_enter Try.func45, Try.ntmps45
    go_wp2_with fail
    go_ret2
    exact ⟨Fr.refl _ _, .inl ⟨.inl HB.out, rfl⟩⟩
  · have h1 : (l.length : Int) ≤ 320 := by omega
    have HB := Lib.hid hbig
    clear hbig
    go_enter Try.func45, Try.ntmps45
    go_wp2_with fail
    go_loopw [2, 4, 5, 11] (fun v _ _ i wr => ∃ (j : Nat) (m : Nat) (vv : Value), v = vv ∧ j ≤ l.length ∧ i = .int .i64 j ∧ m = (leafL 0 (l.take j)).length ∧ (∀ x ∈ l.take j, 0 ≤ x ∧ x ≤ 1073741824) ∧ wr.ownsRow w.heap.size 102 3 v m ((leafL 0 (l.take j)).flatMap Te) ∧ Below w.heap.size w wr) (fun _ _ _ i _ => l.length - (intOf i).toNat)
    case atStart => exact ⟨0, 0, _, rfl, Nat.zero_le _, rfl, rfl, fun x hx => by simp at hx, World.ownsRow_nil _ _ _ _, Below.refl _ _⟩
    case round =>
      obtain ⟨j, m, vv, rfl, hj, rfl, hm, hok, hown, hbel⟩ := hrel
      by_cases hjl : j < l.length
      · obtain ⟨x, hx⟩ : ∃ x, l[j]? = some x := ⟨l[j], List.getElem?_eq_getElem hjl⟩
        obtain ⟨b, o, rfl, hbl, hcell⟩ := (HS.out.below hbel) (by intro h; rw [h] at hx; simp at hx)
        have c0 := hcell j x hx 0 (.int .i64 x) rfl
        rw [Nat.mul_one, Nat.add_zero] at c0
        have hji : (j : Int) < (l.length : Int) := by omega
        have hj0 : 0 ≤ (j : Int) := by omega
        have HX := Lib.hid (And.intro hx (And.intro hok hm))
        by_cases hx0 : x < 0
        · have HN := Lib.hid (show badC l from .inr ⟨x, List.mem_of_getElem? hx, .inl hx0⟩)
          have HW := Lib.hid hbel
          clear hcell hx hok hm hown hbel hbl
          go_wp2_with fail
          go_ret2
          exact ⟨Fr.of_below HW.out, .inl ⟨HN.out, rfl⟩⟩
        · by_cases hx1 : 1073741824 < x
          · have HN := Lib.hid (show badC l from .inr ⟨x, List.mem_of_getElem? hx, .inr hx1⟩)
            have HW := Lib.hid hbel
            have hx2 : 0 ≤ x := by omega
            clear hcell hx hok hm hown hbel hbl hx0
            go_wp2_with fail
            go_ret2
            exact ⟨Fr.of_below HW.out, .inl ⟨HN.out, rfl⟩⟩
          · have hx2 : 0 ≤ x := by omega
            have hx3 : x ≤ 1073741824 := by omega
            have hlen := leafL_len (l.take j) 0
            rw [← hm, List.length_take] at hlen
            have hml : m ≤ 320 := by omega
            have hW := Lib.hid hbel
            have hS := Lib.hid hown
            have hsz := hbel.size
            by_cases hx4 : 0 < x
            · clear hcell hx hok hm hown hbel hbl hx0 hx1 hlen
              go_wp2_with (at_builtin; go_must (refine wpList_push w.heap.size w wr rfl (.tmp 24) (.tmp 28) 96 rfl 102 3 24 elemT u2 m _ rfl hS hW hsz #[.int .i64 x, .int .i64 (j : Int), .pointer none] 1 1 rfl rfl rfl (by omega) (by omega) (by omega) ?_); intro g cap w5 HQ)
              go_roundw
              case rel =>
                obtain ⟨hx, hok, hm⟩ := HX.out
                refine ⟨j + 1, m + 1, _, rfl, by omega, by go_num, ?_, ?_, ?_, HQ.out.below⟩
                · rw [List.take_add_one, hx, Option.toList_some, leafL_snoc, if_pos hx4, List.length_append, ← hm]; rfl
                · rw [List.take_add_one, hx]
                  intro y hy
                  rcases List.mem_append.1 hy with hy | hy
                  · exact hok y hy
                  · simp at hy; omega
                · rw [List.take_add_one, hx, Option.toList_some, leafL_snoc, if_pos hx4, List.flatMap_append]
                  have := HQ.out.own
                  have e1 : [Th.mk x.toNat (0 + (l.take j).length) none].flatMap Te = [.int .i64 x, .int .i64 (j : Int), .pointer none] := by
                    simp [Te, List.length_take]; omega
                  rw [e1]
                  exact this
              case measure => simp [intOf]; omega
            · have hx5 : x ≤ 0 := by omega
              clear hcell hx hok hm hown hbel hbl hx0 hx1 hlen
              go_wp2_with fail
              go_roundw
              case rel =>
                obtain ⟨hx, hok, hm⟩ := HX.out
                refine ⟨j + 1, m, _, rfl, by omega, by go_num, ?_, ?_, ?_, hW.out⟩
                · rw [List.take_add_one, hx, Option.toList_some, leafL_snoc, if_neg hx4, List.append_nil, ← hm]
                · rw [List.take_add_one, hx]
                  intro y hy
                  rcases List.mem_append.1 hy with hy | hy
                  · exact hok y hy
                  · simp at hy; omega
                · rw [List.take_add_one, hx, Option.toList_some, leafL_snoc, if_neg hx4, List.append_nil]
                  exact hS.out
              case measure => simp [intOf]; omega
      · have hje : j = l.length := by omega
        subst hje
        rw [List.take_length] at hm hok hown
        have hgood : ¬ badC l := by
          rintro (h | ⟨x, hx, h⟩)
          · exact HB.out h
          · have := hok x hx; omega
        have hle := leafL_len l 0
        rcases trow_own hown hm with ⟨rfl, hnil⟩ | ⟨g, cap, rfl, hg, hcap, hT⟩
        · have HC := Lib.hid (sort_nil 73 wr)
          have HK := Lib.hid (And.intro hgood (And.intro hnil hbel))
          clear hgood hnil hbel hm hok hown hle
          go_wp2_with fail
          refine HC.out.mono ?_
          rintro e w1 ⟨rfl, hw⟩
          replace hw := hw.symm
          subst hw
          go_wp2_with fail
          go_ret2
          exact ⟨Fr.of_below HK.out.2.2, .inr ⟨HK.out.1, _, rfl, .inl ⟨rfl, HK.out.2.1⟩⟩⟩
        · have HC := Lib.hid (sort_any 73 cmp_leaves g _ cap (rowF (leafL 0 l)) wr hT (by omega) (rowF_w _ _ (fun t ht => Nat.le_trans (leafL_w l 0 (fun x hx => (hok x hx).2) t ht) (by omega))))
          have HK := Lib.hid (And.intro hgood (And.intro (And.intro hg hcap) hbel))
          clear hgood hbel hm hok hown hle hT hg hcap
          go_wp2_with fail
          refine HC.out.mono ?_
          rintro e w1 ⟨rfl, hf1, hT1⟩
          have H1 := Lib.hid (And.intro hT1 hf1)
          clear hT1 hf1
          go_wp2_with fail
          go_ret2
          obtain ⟨⟨τ, t1, t2, t3⟩, hf1⟩ := H1.out
          exact ⟨Fr.of_below (hf1.out HK.out.2.2 (by simpa using HK.out.2.1.1)), .inr ⟨HK.out.1, _, rfl, .inr ⟨g, cap, τ, rfl, HK.out.2.1.1, HK.out.2.1.2, t1, t2, t3⟩⟩⟩
end Go.Proofs.Ytciejmlhdmjajaa
namespace Go.Proofs.Ytciejmlhdmjajaa
open Go.RowKit
set_option linter.unusedVariables false
set_option linter.unusedSimpArgs false

theorem Trow.news {w : World} {g n : Nat} {F : Nat → Th} (h : Trow w g n F) : ∀ j u, ((List.range n).flatMap fun k => Te (F k))[j]? = some u → w.cell? ((⟨g, 0, none⟩ : Addr).add j) = some u := fun j u hu => by
  have hl : ((List.range n).flatMap (fun i => Te (F i))).length = 3 * n := by rw [flatMap_three _ (fun i => te_len (F i)), List.length_range]
  have hj : j < 3 * n := by rw [← hl]; exact (List.getElem?_eq_some_iff.1 hu).1
  rw [add_none, Nat.zero_add]
  obtain ⟨rest, h⟩ := h
  rw [cell_of h]
  simp only [List.getElem?_toArray]
  rw [List.getElem?_append_left (by rw [hl]; exact hj)]
  exact hu
theorem flat_one (F : Nat → Th) (l : List Nat) : ∀ u ∈ l.flatMap (fun k => Te (F k)), u.oneCell' = true := by
  intro u hu
  obtain ⟨k, _, hk⟩ := List.mem_flatMap.1 hu
  simp [Te] at hk
  rcases hk with rfl | rfl | rfl <;> rfl
set_option maxHeartbeats 800000 in
/-- A row of things is put behind an own row. -/
theorem wpList_cat (B : Nat) (W w0 : World) {ops : Array Oper} {rest : List Oper} {o : Oper} {a : Act} {Q : Exit → Act → World → Prop} (hgd : o.guard = none) (s x : Operand)
    (ho : o.op = .call { callee := .builtin .append, args := #[s, x], argTypes := #[96, 96] })
    (v : Value) (n : Nat) (xs : List Value) (hs : a.eval s = v) (hown : Hid (w0.ownsRow B 102 3 v n xs)) (hB : Hid (Below B W w0)) (hBs : B ≤ w0.heap.size)
    (g m c : Nat) (F : Nat → Th) (hx : a.eval x = .slice (some ⟨g, 0, none⟩) m c) (hT : Hid (Trow w0 g m F)) (hm : 0 < m) (hnm : n + m ≤ 1000)
    (h : ∀ g' cap w', Hid (w'.ownsRow B 102 3 (.slice (some ⟨g', 0, none⟩) (n + m) cap) (n + m) (xs ++ (List.range m).flatMap fun k => Te (F k)) ∧ Below B W w') → wpList Try.prog ops Q rest (a.put o.dst (.slice (some ⟨g', 0, none⟩) (n + m) cap)) w') :
    wpList Try.prog ops Q (o :: rest) a w0 := by
  obtain ⟨ht, i, z, hi, hz, hsz, hby, hzs, hpos⟩ := elemT
  refine wpList_append_lies _ hgd s x _ ho B _ i z 3 24 ht hi hz hsz hby hzs hpos v n xs hs hown.out ⟨g, 0, none⟩ m c ((List.range m).flatMap fun k => Te (F k)) hx (by rw [flatMap_three _ (fun i => te_len (F i)), List.length_range, Nat.mul_comm]) hT.out.news (flat_one F _) hm (by unfold maxLen; omega) (by omega) hBs _ rfl ?_
  intro g' cap w' k1 k2 k3 k4
  exact h g' cap w' (Lib.hid ⟨k1, below_grown hB.out k2 hBs (fun g'' hg'' => (hown.out.lt g'' hg'').1)⟩)

set_option maxRecDepth 2000000 in
set_option maxHeartbeats 3200000 in
theorem clone_any (g n c : Nat) (F : Nat → Th) (w : World) (h : Trow w g n F) (h0 : 0 < n) (hn : n ≤ 1000) :
    Calls Try.prog 76 #[.slice (some ⟨g, 0, none⟩) n c] w fun e w' => ∃ v, e = .returned v ∧ w'.ownsRow w.heap.size 102 3 v n ((List.range n).flatMap fun k => Te (F k)) ∧ Below w.heap.size w w' := by
  have hA := new_of w (.cells #[] 102)
  have HT := Lib.hid (h.to (Fr.alloc [] w (.cells #[] 102)) (by simp))
  have HO : Hid ((w.alloc (.cells #[] 102)).ownsRow w.heap.size 102 3 (.slice (some ⟨w.heap.size, 0, none⟩) 0 0) 0 []) := Lib.hid ⟨rfl, .inr ⟨w.heap.size, 0, #[], rfl, Nat.le_refl _, hA, Nat.le_refl _, by unfold maxLen; omega, rfl, rfl⟩⟩
  have HB := Lib.hid (Fr.alloc [] w (.cells #[] 102)).below
  have hsz := (Fr.alloc [] w (.cells #[] 102)).size
  clear h hA
  have hnil : (binOp BinOp.eql 96 (.slice (some ⟨g, 0, none⟩) n c) (.slice none 0 0)).run Try.prog w = .ok (.bool false) w := by kernel_rfl
  go_enter Try.func76, Try.ntmps76
  go_wp2_with (at_builtin; go_must (refine wpList_cat w.heap.size w (w.alloc (.cells #[] 102)) rfl (.tmp 5) (.tmp 6) rfl _ 0 [] rfl HO HB hsz g n c F rfl HT h0 (by omega) ?_); intro g' cap w' HQ)
  go_ret
  refine ⟨_, rfl, ?_, HQ.out.2⟩
  have := HQ.out.1
  rw [Nat.zero_add, List.nil_append] at this
  simpa using this
/-- Two rows, one behind the other. -/
def catF (n : Nat) (F G : Nat → Th) (k : Nat) : Th := if k < n then F k else G (k - n)
theorem cat_flat (n m : Nat) (F G : Nat → Th) : (List.range (n + m)).flatMap (fun k => Te (catF n F G k)) = (List.range n).flatMap (fun k => Te (F k)) ++ (List.range m).flatMap (fun k => Te (G k)) := by
  rw [List.range_add, List.flatMap_append, List.flatMap_map]
  congr 1
  · have : ∀ l : List Nat, (∀ j ∈ l, j < n) → l.flatMap (fun k => Te (catF n F G k)) = l.flatMap (fun k => Te (F k)) := by
      intro l
      induction l with
      | nil => intro _; rfl
      | cons x l ih => intro hl; rw [List.flatMap_cons, List.flatMap_cons, ih (fun j hj => hl j (by simp [hj]))]; unfold catF; rw [if_pos (hl x (by simp))]
    exact this _ fun j hj => List.mem_range.1 hj
  · congr 1
    funext k
    unfold catF
    rw [if_neg (by omega), show n + k - n = k by omega]
theorem trow_of_own {w : World} {B g n cap : Nat} {F : Nat → Th} (h : w.ownsRow B 102 3 (.slice (some ⟨g, 0, none⟩) n cap) n ((List.range n).flatMap fun k => Te (F k))) : B ≤ g ∧ n ≤ cap ∧ Trow w g n F := by
  rcases h.2 with ⟨h1, h0⟩ | ⟨g', cap', cur, he, hb, hg, hc, hm, hs, ht⟩
  · simp at h1
  · simp at he
    obtain ⟨rfl, rfl⟩ := he
    refine ⟨hb, hc, cur.toList.drop (n * 3), ?_⟩
    rw [hg, ← ht, List.take_append_drop]

set_option maxRecDepth 2000000 in
set_option maxHeartbeats 3200000 in
theorem mergeP_any (g n c g2 m c2 : Nat) (F G : Nat → Th) (w : World) (h : Trow w g n F) (h2 : Trow w g2 m G) (h0 : 0 < n) (hm0 : 0 < m) (hn : n + m ≤ 1000) (hF : ∀ k, (F k).w ≤ 1000000000000000) (hG : ∀ k, (G k).w ≤ 1000000000000000) :
    Calls Try.prog 47 #[.slice (some ⟨g, 0, none⟩) n c, .slice (some ⟨g2, 0, none⟩) m c2] w fun e w' => ∃ g' cap τ, e = .returned (.slice (some ⟨g', 0, none⟩) (n + m) cap) ∧ Fr [] w w' ∧ w.heap.size ≤ g' ∧ n + m ≤ cap ∧ Trow w' g' (n + m) (fun k => catF n F G (τ k)) ∧ Shuf 0 (n + m) id τ ∧ SortedS (fun k => (catF n F G k).w) τ 0 (n + m) := by
  have HC := Lib.hid (clone_any g n c F w h h0 (by omega))
  have H2 := Lib.hid h2
  have HW := Lib.hid (show ∀ k, (catF n F G k).w ≤ 1000000000000000 from fun k => by unfold catF; split <;> simp [hF, hG])
  clear h h2 hF hG
  go_enter Try.func47, Try.ntmps47
  go_wp2_with fail
  refine HC.out.mono ?_
  rintro e w1 ⟨v, rfl, hown, hbel⟩
  have hsz := hbel.size
  have HT := Lib.hid (H2.out.to (l := []) (Fr.of_below hbel) (by simp))
  have HB := Lib.hid hbel
  have HO := Lib.hid hown
  clear hown hbel
  go_wp2_with (at_builtin; go_must (refine wpList_cat w.heap.size w w1 rfl (.tmp 7) (.tmp 8) rfl v n _ rfl HO HB hsz g2 m c2 G rfl HT hm0 hn ?_); intro g' cap w' HQ)
  obtain ⟨hge, hcg, hTg⟩ := trow_of_own (F := catF n F G) (by rw [cat_flat]; exact HQ.out.1)
  have HS := Lib.hid (sort_any 77 cmp_merge g' (n + m) cap (catF n F G) w' hTg hn HW.out)
  have HG := Lib.hid (And.intro hge hcg)
  clear hge hTg hcg
  refine HS.out.mono ?_
  rintro e w2 ⟨rfl, hf2, hT2⟩
  have H1 := Lib.hid (And.intro hT2 hf2)
  clear hT2 hf2
  go_wp2_with fail
  go_ret
  obtain ⟨⟨τ, t1, t2, t3⟩, hf1⟩ := H1.out
  exact ⟨g', cap, τ, rfl, Fr.of_below (hf1.out HQ.out.2 (by simpa using HG.out.1)), HG.out.1, HG.out.2, t1, t2, t3⟩
end Go.Proofs.Ytciejmlhdmjajaa
namespace Go.Proofs.Ytciejmlhdmjajaa
open Go.RowKit
set_option linter.unusedVariables false
set_option linter.unusedSimpArgs false

/-- What a thing is made of. -/
inductive PT where
  | leaf (s : Nat)
  | node (a b : PT)
def occ : PT → Nat → Nat
  | .leaf s, k => if k = s then 1 else 0
  | .node a b, k => occ a k + occ b k
/-- A thing in memory, whose packages lie in blocks other than gl. -/
def Tree (w : World) (gl : Nat) : PT → Th → Prop
  | .leaf s, t => t.two = none ∧ t.s = s
  | .node a b, t => ∃ (g : Nat) (x y : Th), t.two = some ⟨g, 0, none⟩ ∧ g ≠ gl ∧ w.heap[g]? = some (.cells (Te x ++ Te y).toArray 103 (0, 0)) ∧ Tree w gl a x ∧ Tree w gl b y
theorem Tree.to {w w' : World} {gl : Nat} (f : Fr [gl] w w') : ∀ (p : PT) (t : Th), Tree w gl p t → Tree w' gl p t
  | .leaf s, t, h => h
  | .node a b, t, h => by
    obtain ⟨g, x, y, h1, h2, h3, h4, h5⟩ := h
    exact ⟨g, x, y, h1, h2, f.blk h3 (by simpa using h2), Tree.to f a x h4, Tree.to f b y h5⟩
/-- Where the boxes of packages stay, things are what they were. -/
theorem Tree.grow {w w' : World} {gl : Nat} (f : ∀ (g : Nat) (cs : Array Value), w.heap[g]? = some (.cells cs 103 (0, 0)) → w'.heap[g]? = some (.cells cs 103 (0, 0))) : ∀ (p : PT) (t : Th), Tree w gl p t → Tree w' gl p t
  | .leaf s, t, h => h
  | .node a b, t, h => by
    obtain ⟨g, x, y, h1, h2, h3, h4, h5⟩ := h
    exact ⟨g, x, y, h1, h2, f g _ h3, Tree.grow f a x h4, Tree.grow f b y h5⟩
theorem boxes_grown {w w' : World} {B : Nat} {v : Value} {n : Nat} {xs : List Value} (h : w.ownsRow B 102 3 v n xs) (hg : w.grownBy w' v.ownBlock) : ∀ (g : Nat) (cs : Array Value), w.heap[g]? = some (.cells cs 103 (0, 0)) → w'.heap[g]? = some (.cells cs 103 (0, 0)) := by
  intro g cs hc
  rw [hg.block g (lt_of hc) ?_, hc]
  intro he
  rcases h.2 with ⟨rfl, _⟩ | ⟨g', cap, cur, rfl, hb, hh, _⟩
  · simp [Value.ownBlock] at he
  · simp [Value.ownBlock] at he
    subst he
    rw [hc] at hh
    simp at hh
/-- The variables that meet uses: the lengths' slice, itself. -/
structure Meets (w : World) (b1 b2 gl nl cl : Nat) : Prop where
  h1 : w.heap[b1]? = some (.cells #[.slice (some ⟨gl, 0, none⟩) nl cl] 25 (0, 0))
  h2 : w.heap[b2]? = some (.cells #[.func (.func 48) #[] #[.pointer (some ⟨b1, 0, none⟩), .pointer (some ⟨b2, 0, none⟩)]] 105 (0, 0))
  n1 : b1 ≠ gl
  n2 : b2 ≠ gl
theorem Meets.to {w w' : World} {b1 b2 gl nl cl : Nat} (h : Meets w b1 b2 gl nl cl) (f : Fr [gl] w w') : Meets w' b1 b2 gl nl cl := ⟨f.blk h.h1 (by simpa using h.n1), f.blk h.h2 (by simpa using h.n2), h.n1, h.n2⟩

set_option maxRecDepth 2000000 in
set_option maxHeartbeats 3200000 in
theorem meet_leaf (b1 b2 gl nl cl s tw : Nat) (F : Nat → Nat) (w : World) (hM : Meets w b1 b2 gl nl cl) (hF : Nrow w gl 5 .u8 nl F) (hs : s < nl) (hn : nl ≤ 1000) (hb : F s ≤ 254) :
    Calls Try.prog 48 #[tv ⟨tw, s, none⟩, .pointer (some ⟨b1, 0, none⟩), .pointer (some ⟨b2, 0, none⟩)] w fun e w' => e = .returned (.tuple #[]) ∧ Nrow w' gl 5 .u8 nl (fun k => F k + if k = s then 1 else 0) ∧ Fr [gl] w w' := by
  have hA := Fr.alloc [] w (.cells (Te ⟨tw, s, none⟩).toArray 102)
  have hM1 := hM.to hA.nil
  have hF1 := hF.to hA (by simp)
  have c1 := cell_of hM1.h1 0
  have d0 := hF1.cell s hs
  have fz := free_of hF1 s
  have hset := hF1.set_ (G := fun k => F k + if k = s then 1 else 0) s (F s + 1) (fun j _ => by by_cases h : j = s <;> simp [h])
  obtain ⟨x, hx⟩ : ∃ x, F s = x := ⟨_, rfl⟩
  rw [hx] at d0 hset hb
  have hsn : (s : Int) < (nl : Int) := by omega
  have hni : (nl : Int) ≤ 1000 := by omega
  obtain ⟨y, hy⟩ : ∃ y, x + 1 = y := ⟨_, rfl⟩
  rw [hy] at hset
  have ex : (x : Int) + 1 = (y : Int) := by omega
  have hxb : (x : Int) ≤ 254 := by omega
  simp at c1
  simp only [Te] at c1 d0 fz hset hA
  have HS := Lib.hid (And.intro hset hA)
  unfold tv
  clear hM hF hM1 hF1 hset hx hA hs hn hb hy
  go_enter Try.func48, Try.ntmps48
  go_wp2_with fail
  ((try simp only [Exit.inBlock, Exit.then]); refine bodyPost_ret (results_none rfl _ _ _) rfl ?_)
  exact ⟨rfl, HS.out.1, HS.out.2.nil.trans (Fr.setCell _ _ _ _)⟩
set_option maxRecDepth 2000000 in
set_option maxHeartbeats 6400000 in
theorem meet_any (b1 b2 gl nl cl : Nat) (hn : nl ≤ 1000) (p : PT) : ∀ (t : Th) (F : Nat → Nat) (w : World) (hT : Tree w gl p t) (hM : Meets w b1 b2 gl nl cl) (hF : Nrow w gl 5 .u8 nl F) (hs : ∀ s, 0 < occ p s → s < nl) (hb : ∀ s, F s + occ p s ≤ 255),
    Calls Try.prog 48 #[tv t, .pointer (some ⟨b1, 0, none⟩), .pointer (some ⟨b2, 0, none⟩)] w fun e w' => e = .returned (.tuple #[]) ∧ Nrow w' gl 5 .u8 nl (fun k => F k + occ p k) ∧ Fr [gl] w w' := by
  induction p with
  | leaf s =>
    rintro ⟨tw, ts, two⟩ F w ⟨h1, h2⟩ hM hF hs hb
    simp only at h1 h2
    subst h1
    subst h2
    exact meet_leaf b1 b2 gl nl cl ts tw F w hM hF (hs ts (by simp [occ])) hn (by have := hb ts; simp [occ] at this; omega)
  | node a b iha ihb =>
    rintro ⟨tw, ts, two⟩ F w ⟨g, x, y, h1, h2, h3, h4, h5⟩ hM hF hs hb
    simp only at h1
    subst h1
    have hA := Fr.alloc [] w (.cells (Te ⟨tw, ts, some ⟨g, 0, none⟩⟩).toArray 102)
    have hM1 := hM.to hA.nil
    have hF1 := hF.to hA (by simp)
    have h3' := hA.blk h3 (by simp)
    have hgl : gl ≠ w.heap.size := by have := lt_of hF; omega
    have hbox := new_of w (.cells (Te ⟨tw, ts, some ⟨g, 0, none⟩⟩).toArray 102)
    have c2 := cell_of hM1.h2 0
    have g0 := cell_of h3' 0
    have g1 := cell_of h3' 1
    have g2 := cell_of h3' 2
    have hglt := lt_of h3'
    have HA1 := Lib.hid (fun W (f : Fr [] (w.alloc (.cells (Te ⟨tw, ts, some ⟨g, 0, none⟩⟩).toArray 102)) W) => iha x F W (Tree.to f.nil a x (Tree.to hA.nil a x h4)) (hM1.to f.nil) (hF1.to f (by simp)) (fun s h => hs s (by simp [occ]; omega)) (fun s => by have := hb s; simp [occ] at this; omega))
    have HS := Lib.hid (And.intro h2 (And.intro h3' (And.intro h5 (And.intro hM1 (And.intro hs (And.intro hb (And.intro hA (And.intro hgl hbox))))))))
    simp [Te] at c2 g0 g1 g2 hglt
    simp only [Te] at HA1 HS
    unfold tv at *
    clear hM hF hM1 hF1 hs hb hA hgl hbox h2 h3 h3' h4 h5 iha
    go_enter Try.func48, Try.ntmps48
    go_wp2_with fail
    refine wp_region_quiet_tail 6 (by kernel_rfl) (by kernel_rfl) ?_
    simp only [List.take_succ_cons, List.take_zero, List.drop_succ_cons, List.drop_zero]
    repeat go_big_quiet_step (fail)
    refine wpQuiet_nil ?_
    go_wp2_with fail
    refine (HA1.out _ (Fr.drew (Fr.refl [] _))).mono ?_
    rintro e w1 ⟨rfl, hF2, f2⟩
    obtain ⟨h2, h3', h5, hM1, hs, hb, hA, hgl, hbox⟩ := HS.out
    have f3 := (Fr.drew (Fr.refl [gl] (w.alloc (.cells #[.int .i64 (tw : Int), .int .i64 (ts : Int), .pointer (some ⟨g, 0, none⟩)] 102)))).trans f2
    have hbox1 := f3.blk hbox (by simpa using Ne.symm hgl)
    have h31 := f3.blk h3' (by simpa using h2)
    have hM2 := hM1.to f3
    have hT2 := Tree.to f3 b y (Tree.to hA.nil b y h5)
    have e0 := cell_of hbox1 2
    have e2 := cell_of hM2.h2 0
    have k0 := cell_of h31 3
    have k1 := cell_of h31 4
    have k2 := cell_of h31 5
    have hglt1 := lt_of h31
    have HA2 := Lib.hid (fun W (f : Fr [] w1 W) => ihb y (fun k => F k + occ a k) W (Tree.to f.nil b y hT2) (hM2.to f.nil) (hF2.to f (by simp)) (fun s h => hs s (by simp [occ]; omega)) (fun s => by have := hb s; simp [occ] at this; omega))
    have H2 := Lib.hid (hA.nil.trans f3)
    simp at e0 e2 k0 k1 k2
    unfold tv at HA2
    clear h2 h3' h5 hM1 hs hb hA hgl hbox f2 f3 hbox1 h31 hM2 hT2 hF2 ihb c2 g0 g1 g2
    go_wp2_with fail
    refine wp_region_quiet_tail 6 (by kernel_rfl) (by kernel_rfl) ?_
    simp only [List.take_succ_cons, List.take_zero, List.drop_succ_cons, List.drop_zero]
    repeat go_big_quiet_step (fail)
    refine wpQuiet_nil ?_
    go_wp2_with fail
    refine (HA2.out _ (Fr.drew (Fr.refl [] _))).mono ?_
    rintro e w3 ⟨rfl, hF3, f4⟩
    have H3 := Lib.hid (And.intro hF3 (H2.out.trans ((Fr.drew (Fr.refl [gl] w1)).trans f4)))
    clear hF3 f4
    go_wp2_with fail
    go_end0
    refine ⟨rfl, H3.out.1.congr fun k _ => ?_, H3.out.2⟩
    simp only [occ]; omega
end Go.Proofs.Ytciejmlhdmjajaa

