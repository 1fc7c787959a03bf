/- Slices of whole numbers that come in, as lists. leaves: the symbols that count, by rising counts. -/
import Derived.Test.YtciejmlhdmjajaaKBa
import Derived.Test.YtciejmlhdmjajaaKSl
import Derived.Test.YtciejmlhdmjajaaKSg
import Derived.ChangeSlices
import Derived.OpenShut
import Derived.OwnWalk
namespace Go.Proofs.Ytciejmlhdmjajaa
open Go.RowKit
set_option linter.unusedVariables false
set_option linter.unusedSimpArgs false

/-- A whole number's cell, of an unsigned kind, of any kind. -/
def Un (k : IntKind) (n : Nat) : List Value := [.int k (n : Int)]
def Zn (k : IntKind) (n : Int) : List Value := [.int k n]
open Go.ChangeShapes Go.WideShapes Go.Deep in
theorem open_zs {H : Type} {henc : TypeId × Value → H} {P : Program} {w : World} {t e : TypeId} {k : IntKind} {v : Value} {d : DataW H} {ps : List MemPlace} {b0 : Nat} {r : Reach}
    (ht : P.underlying t = some (.slice e)) (he : P.underlying e = some (.int k)) (hC : P.cellsOf e = 1) (hval : Value.okWide P w r b0 t v) (hd : DataW.Trod henc P w 0 (fun _ => true) true t v d ps) :
    ∃ a0 cap, ∃ xs : List Int, v = .slice a0 xs.length cap ∧ xs.length ≤ maxLen ∧ SlOf (Zn k) 1 w a0 xs ∧ ∀ x, x ∈ xs → (Lit.int k x).wf = true := by
  obtain ⟨a0, len, cap, rfl⟩ := okWide_slice ht hval
  obtain ⟨fuel, hf⟩ := hd
  rcases open_ints ht he hC hf with ⟨hcs, hx⟩ | ⟨a, len', cap', zs, hcs, _, hl, hm, hz, hx, hi, hw⟩
  · simp [Value.cells] at hcs
    obtain ⟨rfl, rfl, rfl⟩ := hcs
    exact ⟨none, 0, [], rfl, by simp [maxLen], fun h => absurd rfl h, fun x hx => by cases hx⟩
  · simp [Value.cells] at hcs
    obtain ⟨rfl, rfl, rfl⟩ := hcs
    have hzl : zs.length = cap := by simpa using hz
    have htl : (zs.take len).length = len := by rw [List.length_take]; omega
    refine ⟨some a, cap, zs.take len, by rw [htl], by rw [htl]; omega, fun hne => ?_, fun x hx => hw x (List.mem_of_mem_take hx)⟩
    have hpos : 0 < len := by
      rcases Nat.eq_zero_or_pos len with h | h
      · exact absurd (by rw [h]; rfl) hne
      · exact h
    have h0 := hi 0 (by omega)
    have hlt := block_lt_of_cell h0
    obtain ⟨b, o, sp⟩ := a
    have hsp : sp = none := by
      cases sp with
      | none => rfl
      | some s =>
        simp [Addr.add, World.cell?] at h0
        split at h0 <;> simp_all
    subst hsp
    refine ⟨b, o, rfl, by simpa [Addr.add] using hlt, fun i x hi' j u hu => ?_⟩
    have hj : j = 0 := by
      have := (List.getElem?_eq_some_iff.1 hu).1
      simp [Zn] at this
      exact this
    subst hj
    have hil := (List.getElem?_eq_some_iff.1 hi').1
    rw [htl] at hil
    have := hi i (by omega)
    rw [add_none] at this
    simp [Zn] at hu
    subst hu
    rw [Nat.mul_one, Nat.add_zero, this]
    rw [List.getElem?_take_of_lt hil] at hi'
    simp [List.getD, hi']
theorem nat_row {k : IntKind} {w : World} {a0 : Option Addr} {xs : List Int} (h : SlOf (Zn k) 1 w a0 xs) (hx : ∀ x ∈ xs, 0 ≤ x) : SlOf (Un k) 1 w a0 (xs.map Int.toNat) := fun hne => by
  obtain ⟨b, o, h1, h2, h3⟩ := h (by intro e; rw [e] at hne; exact hne rfl)
  refine ⟨b, o, h1, h2, fun i x hi j u hu => ?_⟩
  rw [List.getElem?_map, Option.map_eq_some_iff] at hi
  obtain ⟨y, hy, rfl⟩ := hi
  refine h3 i y hy j u ?_
  have := hx y (List.mem_of_getElem? hy)
  unfold Un at hu
  rw [show ((y.toNat : Nat) : Int) = y by omega] at hu
  exact hu
set_option maxRecDepth 100000 in
open Go.ChangeShapes Go.WideShapes in
theorem open_u8s {H : Type} {henc : TypeId × Value → H} {w : World} {v : Value} {d : DataW H} {ps : List MemPlace} {b0 : Nat} {r : Reach}
    (hval : Value.okWide Try.prog w r b0 25 v) (hd : DataW.Trod henc Try.prog w 0 (fun _ => true) true 25 v d ps) :
    ∃ a0 cap, ∃ xs : List Nat, v = .slice a0 xs.length cap ∧ xs.length ≤ maxLen ∧ SlOf (Un .u8) 1 w a0 xs ∧ ∀ x, x ∈ xs → x < 256 := by
  obtain ⟨a0, cap, xs, h1, h2, h3, h4⟩ := open_zs Try.underlying25 Try.underlying5 (by kernel_rfl) hval hd
  have hb : ∀ x ∈ xs, 0 ≤ x ∧ x ≤ 255 := fun x hx => by have := h4 x hx; simp [Lit.wf, IntKind.min, IntKind.max, IntKind.signed, IntKind.bits] at this; omega
  refine ⟨a0, cap, xs.map Int.toNat, by rw [List.length_map]; exact h1, by rw [List.length_map]; exact h2, nat_row h3 (fun x hx => (hb x hx).1), fun x hx => ?_⟩
  obtain ⟨y, hy, rfl⟩ := List.mem_map.1 hx
  have := hb y hy
  omega
set_option maxRecDepth 100000 in
open Go.ChangeShapes Go.WideShapes in
set_option maxRecDepth 100000 in
open Go.ChangeShapes Go.WideShapes in
set_option maxRecDepth 100000 in
open Go.ChangeShapes Go.WideShapes in
theorem open_i64s {H : Type} {henc : TypeId × Value → H} {w : World} {v : Value} {d : DataW H} {ps : List MemPlace} {b0 : Nat} {r : Reach}
    (hval : Value.okWide Try.prog w r b0 63 v) (hd : DataW.Trod henc Try.prog w 0 (fun _ => true) true 63 v d ps) :
    ∃ a0 cap, ∃ xs : List Int, v = .slice a0 xs.length cap ∧ xs.length ≤ maxLen ∧ SlOf (Zn .i64) 1 w a0 xs ∧ ∀ x, x ∈ xs → -9223372036854775808 ≤ x ∧ x ≤ 9223372036854775807 := by
  obtain ⟨a0, cap, xs, h1, h2, h3, h4⟩ := open_zs Try.underlying63 Try.underlying3 (by kernel_rfl) hval hd
  exact ⟨a0, cap, xs, h1, h2, h3, fun x hx => by have := h4 x hx; simp [Lit.wf, IntKind.min, IntKind.max, IntKind.signed, IntKind.bits] at this; omega⟩
end Go.Proofs.Ytciejmlhdmjajaa
namespace Go.Proofs.Ytciejmlhdmjajaa
open Go.RowKit
set_option linter.unusedVariables false
set_option linter.unusedSimpArgs false

theorem elemT : Elem Try.prog 96 102 3 24 := by
  refine ⟨Try.underlying96, ?_⟩
  obtain ⟨i0, hi, hz0, hz1, hz2⟩ := info_parts (show (Try.prog.info? 102).map (fun i => (i.zero, i.size, i.bytes)) = some (some (.agg #[.int .i64 0, .int .i64 0, .pointer none]), 3, 24) by kernel_rfl)
  exact ⟨i0, _, hi, hz0, hz1, hz2, rfl, by decide⟩
/-- The symbols that count, as they stand: the first of them has number s. -/
def leafL : Nat → List Int → List Th
  | _, [] => []
  | s, c :: xs => if 0 < c then ⟨c.toNat, s, none⟩ :: leafL (s + 1) xs else leafL (s + 1) xs
theorem leafL_snoc (c : Int) : ∀ (xs : List Int) (s : Nat), leafL s (xs ++ [c]) = leafL s xs ++ if 0 < c then [⟨c.toNat, s + xs.length, none⟩] else []
  | [], s => by simp [leafL]
  | x :: xs, s => by
    have ih := leafL_snoc c xs (s + 1)
    rw [List.cons_append, leafL, leafL, ih, List.length_cons, show s + 1 + xs.length = s + (xs.length + 1) by omega]
    by_cases h : 0 < x
    · rw [if_pos h, if_pos h, List.cons_append]
    · rw [if_neg h, if_neg h]
theorem leafL_len : ∀ (xs : List Int) (s : Nat), (leafL s xs).length ≤ xs.length
  | [], s => by simp [leafL]
  | x :: xs, s => by
    have ih := leafL_len xs (s + 1)
    rw [leafL]
    split <;> simp <;> omega
theorem leafL_w : ∀ (xs : List Int) (s : Nat) (h : ∀ x ∈ xs, x ≤ 1073741824), ∀ t ∈ leafL s xs, t.w ≤ 1073741824
  | [], s, _, t, ht => by simp [leafL] at ht
  | x :: xs, s, h, t, ht => by
    have ih := leafL_w xs (s + 1) (fun y hy => h y (by simp [hy])) t
    have hx := h x (by simp)
    rw [leafL] at ht
    split at ht
    · rcases List.mem_cons.1 ht with rfl | h1
      · simp only; omega
      · exact ih h1
    · exact ih ht
/-- A count that may not be. -/
def badC (xs : List Int) : Prop := 320 < xs.length ∨ ∃ x ∈ xs, x < 0 ∨ 1073741824 < x
def th0 : Th := ⟨0, 0, none⟩
def rowF (l : List Th) (k : Nat) : Th := l.getD k th0
theorem rowF_all (l : List Th) : (List.range l.length).flatMap (fun k => Te (rowF l k)) = l.flatMap Te := by
  have : l = (List.range l.length).map (rowF l) := by
    apply List.ext_getElem?
    intro i
    by_cases hi : i < l.length
    · simp [hi, rowF]
    · rw [List.getElem?_eq_none (by omega), List.getElem?_eq_none (by simp; omega)]
  conv => rhs; rw [this]
  rw [List.flatMap_map]
theorem rowF_w (l : List Th) (B : Nat) (h : ∀ t ∈ l, t.w ≤ B) (k : Nat) : (rowF l k).w ≤ B := by
  unfold rowF
  rw [List.getD_eq_getElem?_getD]
  cases hk : l[k]? with
  | none => simp [th0]
  | some t => exact h t (List.mem_of_getElem? hk)
/-- An own row of things: none, or a block that begins with them. -/
theorem trow_own {w : World} {B : Nat} {v : Value} {n : Nat} {l : List Th} (h : w.ownsRow B 102 3 v n (l.flatMap Te)) (hn : n = l.length) : (v = .slice none 0 0 ∧ l = []) ∨ ∃ g cap, v = .slice (some ⟨g, 0, none⟩) l.length cap ∧ B ≤ g ∧ l.length ≤ cap ∧ Trow w g l.length (rowF l) := by
  subst hn
  rcases h.2 with ⟨rfl, h0⟩ | ⟨g, cap, cur, rfl, hb, hg, hc, hm, hs, ht⟩
  · exact .inl ⟨rfl, List.eq_nil_of_length_eq_zero h0⟩
  · refine .inr ⟨g, cap, rfl, hb, hc, cur.toList.drop (l.length * 3), ?_⟩
    rw [hg, rowF_all, ← ht, List.take_append_drop]

set_option maxRecDepth 2000000 in
set_option maxHeartbeats 3200000 in
theorem sort_nil (q : FuncId) (w : World) : Calls Try.prog 72 #[.slice none 0 0, .func (.func q) #[] #[]] w fun e w' => e = .returned (.tuple #[]) ∧ w' = w := by
  have H1 := Lib.hid (show Calls Try.prog 94 #[.slice none 0 0, .int .i64 0, .int .i64 0, .func (.func q) #[] #[]] w fun e w' => e = .returned (.tuple #[]) ∧ w' = w by
    go_enter Try.func94, Try.ntmps94
    go_wp2_with fail
    go_loopw [8] (fun v wr => v = .int .i64 1 ∧ wr = w) (fun _ _ => 0)
    case atStart => exact ⟨rfl, rfl⟩
    case round =>
      obtain ⟨rfl, hw⟩ := hrel
      replace hw := hw.symm
      subst hw
      go_wp2_with fail
      go_end0
      exact ⟨rfl, rfl⟩)
  have H2 := Lib.hid (show Calls Try.prog 85 #[.slice none 0 0, .int .i64 0, .func (.func q) #[] #[]] w fun e w' => e = .returned (.tuple #[]) ∧ w' = w by
    go_enter Try.func85, Try.ntmps85
    go_wp2_with fail
    go_loopw [7, 8] (fun u v wr => u = .int .i64 0 ∧ v = .int .i64 20 ∧ wr = w) (fun _ _ _ => 0)
    case atStart => exact ⟨rfl, rfl, rfl⟩
    case round =>
      obtain ⟨rfl, rfl, hw⟩ := hrel
      replace hw := hw.symm
      subst hw
      go_wp2_with fail
      refine H1.out.mono ?_
      rintro e w1 ⟨rfl, hw⟩
      replace hw := hw.symm
      subst hw
      go_wp2_with fail
      go_loopw [6, 7, 8] (fun x u v wr => x = .int .i64 20 ∧ wr = w) (fun _ _ _ _ => 0)
      case atStart => exact ⟨rfl, rfl⟩
      case round =>
        obtain ⟨rfl, hw⟩ := hrel
        replace hw := hw.symm
        subst hw
        go_wp2_with fail
        go_end0
        exact ⟨rfl, rfl⟩)
  go_enter Try.func72, Try.ntmps72
  go_wp2_with fail
  refine H2.out.mono ?_
  rintro e w1 ⟨rfl, hw⟩
  replace hw := hw.symm
  subst hw
  go_wp2_with fail
  go_end0
  exact ⟨rfl, rfl⟩

/-- A row in order: of what things, where it lies. -/
def InOrder (w : World) (v : Value) (B : Nat) (l : List Th) : Prop := (v = .slice none 0 0 ∧ l = []) ∨ ∃ g cap τ, v = .slice (some ⟨g, 0, none⟩) l.length cap ∧ B ≤ g ∧ l.length ≤ cap ∧ Trow w g l.length (fun k => rowF l (τ k)) ∧ Shuf 0 l.length id τ ∧ SortedS (fun k => (rowF l k).w) τ 0 l.length

set_option maxRecDepth 2000000 in
set_option maxHeartbeats 6400000 in
theorem leaves_any (a : Option Addr) (c : Nat) (l : List Int) (w : World) (hs : SlOf (Zn .i64) 1 w a l) (hl : l.length ≤ 9223372036854775807) :
    Calls Try.prog 45 #[.slice a l.length c] w fun e w' => Fr [] w w' ∧ (badC l ∧ e = .returned (.tuple #[.slice none 0 0, .bool false]) ∨ ¬ badC l ∧ ∃ v, e = .returned (.tuple #[v, .bool true]) ∧ InOrder w' v w.heap.size (leafL 0 l)) := by
  have HS := Lib.hid hs
  have hl1 : (l.length : Int) ≤ 9223372036854775807 := by omega
  clear hs hl
  by_cases hbig : 320 < l.length
  · have h1 : (320 : Int) < (l.length : Int) := by omega
    have HB := Lib.hid hbig
    clear hbig
    go_enter Try.func45, Try.ntmps45
    go_wp2_with fail
    go_ret2
    exact ⟨Fr.refl _ _, .inl ⟨.inl HB.out, rfl⟩⟩
  · have h1 : (l.length : Int) ≤ 320 := by omega
    have HB := Lib.hid hbig
    clear hbig
    go_enter Try.func45, Try.ntmps45
    go_wp2_with fail
    go_loopw [2, 4, 5, 11] (fun v _ _ i wr => ∃ (j : Nat) (m : Nat) (vv : Value), v = vv ∧ j ≤ l.length ∧ i = .int .i64 j ∧ m = (leafL 0 (l.take j)).length ∧ (∀ x ∈ l.take j, 0 ≤ x ∧ x ≤ 1073741824) ∧ wr.ownsRow w.heap.size 102 3 v m ((leafL 0 (l.take j)).flatMap Te) ∧ Below w.heap.size w wr) (fun _ _ _ i _ => l.length - (intOf i).toNat)
    case atStart => exact ⟨0, 0, _, rfl, Nat.zero_le _, rfl, rfl, fun x hx => by simp at hx, World.ownsRow_nil _ _ _ _, Below.refl _ _⟩
    case round =>
      obtain ⟨j, m, vv, rfl, hj, rfl, hm, hok, hown, hbel⟩ := hrel
      by_cases hjl : j < l.length
      · obtain ⟨x, hx⟩ : ∃ x, l[j]? = some x := ⟨l[j], List.getElem?_eq_getElem hjl⟩
        obtain ⟨b, o, rfl, hbl, hcell⟩ := (HS.out.below hbel) (by intro h; rw [h] at hx; simp at hx)
        have c0 := hcell j x hx 0 (.int .i64 x) rfl
        rw [Nat.mul_one, Nat.add_zero] at c0
        have hji : (j : Int) < (l.length : Int) := by omega
        have hj0 : 0 ≤ (j : Int) := by omega
        have HX := Lib.hid (And.intro hx (And.intro hok hm))
        by_cases hx0 : x < 0
        · have HN := Lib.hid (show badC l from .inr ⟨x, List.mem_of_getElem? hx, .inl hx0⟩)
          have HW := Lib.hid hbel
          clear hcell hx hok hm hown hbel hbl
          go_wp2_with fail
          go_ret2
          exact ⟨Fr.of_below HW.out, .inl ⟨HN.out, rfl⟩⟩
        · by_cases hx1 : 1073741824 < x
          · have HN := Lib.hid (show badC l from .inr ⟨x, List.mem_of_getElem? hx, .inr hx1⟩)
            have HW := Lib.hid hbel
            have hx2 : 0 ≤ x := by omega
            clear hcell hx hok hm hown hbel hbl hx0
            go_wp2_with fail
            go_ret2
            exact ⟨Fr.of_below HW.out, .inl ⟨HN.out, rfl⟩⟩
          · have hx2 : 0 ≤ x := by omega
            have hx3 : x ≤ 1073741824 := by omega
            have hlen := leafL_len (l.take j) 0
            rw [← hm, List.length_take] at hlen
            have hml : m ≤ 320 := by omega
            have hW := Lib.hid hbel
            have hS := Lib.hid hown
            have hsz := hbel.size
            by_cases hx4 : 0 < x
            · clear hcell hx hok hm hown hbel hbl hx0 hx1 hlen
              go_wp2_with (at_builtin; go_must (refine wpList_push w.heap.size w wr rfl (.tmp 24) (.tmp 28) 96 rfl 102 3 24 elemT u2 m _ rfl hS hW hsz #[.int .i64 x, .int .i64 (j : Int), .pointer none] 1 1 rfl rfl rfl (by omega) (by omega) (by omega) ?_); intro g cap w5 HQ)
              go_roundw
              case rel =>
                obtain ⟨hx, hok, hm⟩ := HX.out
                refine ⟨j + 1, m + 1, _, rfl, by omega, by go_num, ?_, ?_, ?_, HQ.out.below⟩
                · rw [List.take_add_one, hx, Option.toList_some, leafL_snoc, if_pos hx4, List.length_append, ← hm]; rfl
                · rw [List.take_add_one, hx]
                  intro y hy
                  rcases List.mem_append.1 hy with hy | hy
                  · exact hok y hy
                  · simp at hy; omega
                · rw [List.take_add_one, hx, Option.toList_some, leafL_snoc, if_pos hx4, List.flatMap_append]
                  have := HQ.out.own
                  have e1 : [Th.mk x.toNat (0 + (l.take j).length) none].flatMap Te = [.int .i64 x, .int .i64 (j : Int), .pointer none] := by
                    simp [Te, List.length_take]; omega
                  rw [e1]
                  exact this
              case measure => simp [intOf]; omega
            · have hx5 : x ≤ 0 := by omega
              clear hcell hx hok hm hown hbel hbl hx0 hx1 hlen
              go_wp2_with fail
              go_roundw
              case rel =>
                obtain ⟨hx, hok, hm⟩ := HX.out
                refine ⟨j + 1, m, _, rfl, by omega, by go_num, ?_, ?_, ?_, hW.out⟩
                · rw [List.take_add_one, hx, Option.toList_some, leafL_snoc, if_neg hx4, List.append_nil, ← hm]
                · rw [List.take_add_one, hx]
                  intro y hy
                  rcases List.mem_append.1 hy with hy | hy
                  · exact hok y hy
                  · simp at hy; omega
                · rw [List.take_add_one, hx, Option.toList_some, leafL_snoc, if_neg hx4, List.append_nil]
                  exact hS.out
              case measure => simp [intOf]; omega
      · have hje : j = l.length := by omega
        subst hje
        rw [List.take_length] at hm hok hown
        have hgood : ¬ badC l := by
          rintro (h | ⟨x, hx, h⟩)
          · exact HB.out h
          · have := hok x hx; omega
        have hle := leafL_len l 0
        rcases trow_own hown hm with ⟨rfl, hnil⟩ | ⟨g, cap, rfl, hg, hcap, hT⟩
        · have HC := Lib.hid (sort_nil 73 wr)
          have HK := Lib.hid (And.intro hgood (And.intro hnil hbel))
          clear hgood hnil hbel hm hok hown hle
          go_wp2_with fail
          refine HC.out.mono ?_
          rintro e w1 ⟨rfl, hw⟩
          replace hw := hw.symm
          subst hw
          go_wp2_with fail
          go_ret2
          exact ⟨Fr.of_below HK.out.2.2, .inr ⟨HK.out.1, _, rfl, .inl ⟨rfl, HK.out.2.1⟩⟩⟩
        · have HC := Lib.hid (sort_any 73 cmp_leaves g _ cap (rowF (leafL 0 l)) wr hT (by omega) (rowF_w _ _ (fun t ht => Nat.le_trans (leafL_w l 0 (fun x hx => (hok x hx).2) t ht) (by omega))))
          have HK := Lib.hid (And.intro hgood (And.intro (And.intro hg hcap) hbel))
          clear hgood hbel hm hok hown hle hT hg hcap
          go_wp2_with fail
          refine HC.out.mono ?_
          rintro e w1 ⟨rfl, hf1, hT1⟩
          have H1 := Lib.hid (And.intro hT1 hf1)
          clear hT1 hf1
          go_wp2_with fail
          go_ret2
          obtain ⟨⟨τ, t1, t2, t3⟩, hf1⟩ := H1.out
          exact ⟨Fr.of_below (hf1.out HK.out.2.2 (by simpa using HK.out.2.1.1)), .inr ⟨HK.out.1, _, rfl, .inr ⟨g, cap, τ, rfl, HK.out.2.1.1, HK.out.2.1.2, t1, t2, t3⟩⟩⟩
end Go.Proofs.Ytciejmlhdmjajaa

