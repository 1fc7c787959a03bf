/- The document's Apply; Replay, the program's and the document's; two lists held against each other. -/
import Derived.Test.YtoicdepkakgedaaMg
import Derived.Laws.StructEq
namespace Go.Proofs.Ytoicdepkakgedaa
open Go.RowKit
set_option linter.unusedVariables false
set_option linter.unusedSimpArgs false

theorem run_add_string {P : Program} (W : World) (t : TypeId) (a b : ByteArray) (h : a.size + b.size ≤ 2000000000) : (binOp .add t (.string a) (.string b)).run P W = .ok (.string (a ++ b)) W := by
  rw [binOp_string_add]; exact run_string_add_sum W a b (by omega)
theorem putS_eq (s tx : ByteArray) (a : Nat) (h : a + tx.size ≤ s.size) : s.extract 0 a ++ tx ++ s.extract (a + tx.size) s.size = ⟨(putAt s.data.toList a tx.data.toList).toArray⟩ := by
  apply ByteArray.ext; apply Array.ext'
  simp only [ByteArray.data_append, Array.toList_append]
  rw [Lib.extract_data, Lib.extract_to_end]
  simp [putAt]
theorem toList_inj {s t : ByteArray} : s.toList = t.toList ↔ s = t := by
  rw [ByteArray.toList_eq, ByteArray.toList_eq]
  exact ⟨fun h => ByteArray.ext (Array.ext' h), fun h => by rw [h]⟩

/-- Are they one? -/
def sameMd (x y : Md) : Bool := decide (x = y)
theorem md_eq (a b : Int) (s t : ByteArray) (W : World) : (binOp .neq 34 (.agg #[.int .i64 a, .string s]) (.agg #[.int .i64 b, .string t])).run Try.prog W = .ok (.bool (!sameMd ⟨a, s⟩ ⟨b, t⟩)) W := by
  rw [run_neq_struct]
  have h : (Op.equalIn 10000 34 (.agg #[.int .i64 a, .string s]) (.agg #[.int .i64 b, .string t])).run Try.prog W = .ok (a == b && s.toList == t.toList) W := by
    have u3 := Try.underlying3
    have a3 := Try.isAgg3
    have z3 := Try.sizeOf3
    have u9 := Try.underlying9
    have a9 := Try.isAgg9
    have z9 := Try.sizeOf9
    have hS : Try.prog.underlying 34 = some (.struct (Try.prog.fieldsOf 34)) := by kernel_rfl
    have hp : Try.prog.stoodInHeld 34 = false := by kernel_rfl
    rw [show (10000 : Nat) = 9999 + 1 from rfl, run_equalIn_agg W 9999 34 _ _ hS hp]
    simp only [Program.fieldsOf, Try.underlying34]
    go_simp
    by_cases h1 : a = b <;> by_cases h2 : s.toList = t.toList <;> simp [h1, h2]
  rw [h]
  simp only [Result.andThen]
  congr 3
  rw [Bool.eq_iff_iff]
  simp only [sameMd, Bool.and_eq_true, beq_iff_eq, decide_eq_true_eq, Md.mk.injEq, toList_inj]

set_option maxRecDepth 2000000 in
set_option maxHeartbeats 1600000 in
theorem same_any (a1 a2 : Option Addr) (c1 c2 : Nat) (l m : List Md) (w : World) (hs : SlOf Md.enc 2 w a1 l) (ht : SlOf Md.enc 2 w a2 m) (hl : l.length ≤ 1000000000) (hm : m.length ≤ 1000000000) :
    Calls Try.prog 23 #[.slice a1 l.length c1, .slice a2 m.length c2] w fun e w' => e = .returned (.bool (decide (l = m))) ∧ Fr [] w w' := by
  have S1 := Lib.hid hs
  have S2 := Lib.hid ht
  have i1 : (l.length : Int) ≤ 1000000000 := by omega
  have i2 : (m.length : Int) ≤ 1000000000 := by omega
  clear hs ht hl hm
  by_cases hne : l.length = m.length
  · have HL := Lib.hid hne
    rw [← hne] at i2 ⊢
    clear hne
    go_enter Try.func23, Try.ntmps23
    go_wp2_with fail
    go_loopw [5] (fun i wr => ∃ k : Nat, k ≤ l.length ∧ i = .int .i64 k ∧ l.take k = m.take k ∧ Fr [] w wr) (fun i _ => l.length - (intOf i).toNat)
    case atStart => exact ⟨0, Nat.zero_le _, rfl, rfl, Fr.refl _ _⟩
    case round =>
      obtain ⟨k, hk, rfl, htk, hF⟩ := hrel
      have HT := Lib.hid (And.intro htk hF)
      clear htk
      by_cases hlt : k < l.length
      · obtain ⟨x, hx⟩ : ∃ x, l[k]? = some x := ⟨l[k], List.getElem?_eq_getElem hlt⟩
        have hlt2 : k < m.length := by have := HL.out; omega
        obtain ⟨y, hy⟩ : ∃ y, m[k]? = some y := ⟨m[k], List.getElem?_eq_getElem hlt2⟩
        obtain ⟨b, o, rfl, hbl, hcell⟩ := (S1.out.below hF.below) (by intro h; rw [h] at hlt; simp at hlt)
        obtain ⟨b', o', rfl, hbl', hcell'⟩ := (S2.out.below hF.below) (by intro h; rw [h] at hlt2; simp at hlt2)
        obtain ⟨xa, xt⟩ := x
        obtain ⟨ya, yt⟩ := y
        have k0 := hcell k _ hx 0 (.int .i64 xa) rfl
        have k1 := hcell k _ hx 1 (.string xt) rfl
        have j0 := hcell' k _ hy 0 (.int .i64 ya) rfl
        have j1 := hcell' k _ hy 1 (.string yt) rfl
        simp only [Nat.add_zero] at k0 k1 j0 j1
        rw [← Nat.add_assoc] at k1 j1
        have HXY := Lib.hid (And.intro hx hy)
        have hki : (k : Int) < (l.length : Int) := by omega
        have hk0 : 0 ≤ (k : Int) := by omega
        clear hcell hcell' hx hy hlt2
        have heq := md_eq xa ya xt yt
        go_wp2_with fail
        go_quiet (fail)
        clear heq
        have hF2 : Hid (Fr [] w (wr.drewN nq)) := Lib.hid (HT.out.2.trans (Fr.drewN [] wr nq))
        generalize wr.drewN nq = W at *
        cases hd : sameMd ⟨xa, xt⟩ ⟨ya, yt⟩ with
        | true =>
          have HD := Lib.hid (of_decide_eq_true hd)
          clear hd
          go_wp2_with fail
          go_roundw
          case rel =>
            refine ⟨k + 1, by omega, by go_num, ?_, hF2.out⟩
            obtain ⟨hx, hy⟩ := HXY.out
            obtain ⟨p1, p2⟩ := List.getElem?_eq_some_iff.1 hx
            obtain ⟨q1, q2⟩ := List.getElem?_eq_some_iff.1 hy
            rw [List.take_succ_eq_append_getElem p1, List.take_succ_eq_append_getElem q1, HT.out.1, p2, q2, HD.out]
          case measure => simp [intOf]; omega
        | false =>
          have hn : ¬ l = m := by
            intro h
            have := of_decide_eq_false hd
            apply this
            have h1 := HXY.out.1
            rw [h, HXY.out.2] at h1
            injection h1 with h1
            exact h1.symm
          have HN := Lib.hid (decide_eq_false hn)
          clear hd hn
          go_wp2_with fail
          go_ret
          rw [HN.out]
          exact ⟨rfl, hF2.out⟩
      · have hke : k = l.length := by omega
        subst hke
        have he : l = m := by have := HT.out.1; rw [List.take_of_length_le (Nat.le_refl _), HL.out, List.take_of_length_le (Nat.le_refl _)] at this; exact this
        have HE := Lib.hid (decide_eq_true he)
        clear he
        go_wp2_with fail
        go_ret
        rw [HE.out]
        exact ⟨rfl, HT.out.2⟩
  · have hn : ¬ l = m := fun h => hne (by rw [h])
    rw [decide_eq_false hn]
    have hb : ((l.length : Int) != (m.length : Int)) = true := by rw [bne_iff_ne]; omega
    clear hn hne
    go_enter Try.func23, Try.ntmps23
    go_wp2_with fail
    go_ret
    exact ⟨rfl, Fr.refl _ _⟩

set_option maxRecDepth 2000000 in
set_option maxHeartbeats 1600000 in
theorem rapply_any (t : ByteArray) (a1 : Option Addr) (c1 : Nat) (l : List Md) (w : World) (hs : SlOf Md.enc 2 w a1 l) (hl : l.length ≤ 1000000000) (hz : sizeN l ≤ 1000000000) (ht : t.size ≤ 1000000000) :
    Calls Try.prog 15 #[.string t, .slice a1 l.length c1] w fun e w' => e = .returned (.tuple #[.string (appS t l), .int .i64 (appE t l)]) ∧ Fr [] w w' := by
  have S1 := Lib.hid hs
  have i1 : (l.length : Int) ≤ 1000000000 := by omega
  have i2 : (t.size : Int) ≤ 1000000000 := by omega
  have HZ := Lib.hid hz
  clear hs hl hz
  cases hp : pageB t.size with
  | false =>
    obtain ⟨e1, e2⟩ := app_bad (t := t) (l := l) (by rw [hp]; rfl)
    have HE := Lib.hid (And.intro hp (And.intro e1 e2))
    clear hp e1 e2
    go_enter Try.func15, Try.ntmps15
    go_wp2_with fail
    refine (rpage_any t.size _).mono ?_
    rintro e w1 ⟨rfl, rfl⟩
    rw [HE.out.1]
    go_wp2_with fail
    go_ret2
    rw [HE.out.2.1, HE.out.2.2]
    exact ⟨rfl, Fr.refl _ _⟩
  | true =>
    have HP := Lib.hid hp
    clear hp
    go_enter Try.func15, Try.ntmps15
    go_wp2_with fail
    refine (rpage_any t.size _).mono ?_
    rintro e w1 ⟨rfl, rfl⟩
    rw [HP.out]
    go_wp2_with fail
    go_loopw [6, 7] (fun x i wr => ∃ (k : Nat) (s : ByteArray), k ≤ l.length ∧ i = .int .i64 k ∧ x = .string s ∧ allB t.size (l.take k) = true ∧ s.data.toList = applyL t.data.toList (l.take k) ∧ Below w.heap.size w wr) (fun _ i _ => l.length - (intOf i).toNat)
    case atStart => exact ⟨0, t, Nat.zero_le _, rfl, rfl, rfl, rfl, Below.refl _ _⟩
    case round =>
      obtain ⟨k, s, hk, rfl, rfl, hall, hS, hB⟩ := hrel
      obtain ⟨wo, rfl⟩ : ∃ wo : World, wo = wr := ⟨_, rfl⟩
      have hBs := hB.size
      by_cases hlt : k < l.length
      · obtain ⟨m, hm⟩ : ∃ m, l[k]? = some m := ⟨l[k], List.getElem?_eq_getElem hlt⟩
        obtain ⟨b, o, rfl, hbl, hcell⟩ := (S1.out.below hB) (by intro h; rw [h] at hlt; simp at hlt)
        obtain ⟨at_, tx⟩ := m
        have k0 := hcell k _ hm 0 (.int .i64 at_) rfl
        have k1 := hcell k _ hm 1 (.string tx) rfl
        simp only [Nat.add_zero] at k0 k1
        rw [← Nat.add_assoc] at k1
        have htk := sizeN_take l k _ hm
        have hle := sizeN_le l (k + 1)
        have hzz := HZ.out
        have hts : tx.size ≤ 1000000000 := by simp only at htk; omega
        have hbn := new_of wo (.cells #[.int .i64 at_, .string tx] 34)
        have hfb : Fr [] wo (wo.alloc (.cells #[.int .i64 at_, .string tx] 34)) := Fr.alloc _ _ _
        have HH := Lib.hid (And.intro hall (And.intro hS (And.intro hB hm)))
        have HBN := Lib.hid (And.intro hbn hfb)
        clear hcell hm htk hle hzz hall hS hB hbn hfb
        go_wp2_with fail
        refine (rmay_any t.size ⟨at_, tx⟩ _ (by simp only; omega)).mono ?_
        rintro e w2 ⟨rfl, f2⟩
        cases hmay : mayB t.size ⟨at_, tx⟩ with
        | false =>
          have ha := allB_false t.size l k _ HH.out.2.2.2 hmay
          have HE := Lib.hid (app_bad (t := t) (l := l) (by rw [ha]; simp))
          clear hmay ha
          go_wp2_with fail
          go_ret2
          rw [HE.out.1, HE.out.2]
          exact ⟨rfl, Fr.of_below ((f2.out (HBN.out.2.out HH.out.2.2.1 (by simp)) (by simp)))⟩
        | true =>
          obtain ⟨b0, b1, b2, b3, b4, b5⟩ := mayB_bounds hmay
          simp only at b0 b1 b2 b3
          obtain ⟨a, rfl⟩ := Int.eq_ofNat_of_zero_le b0
          have HM := Lib.hid hmay
          have hLn := applyL_length t.data.toList (l.take k) (by simpa using HH.out.1)
          have hss : s.size = t.size := by
            have h1 := congrArg List.length HH.out.2.1
            rw [hLn] at h1
            simpa using h1
          have hb2 := f2.blk HBN.out.1 (by simp)
          have d0 := cell_of hb2 0
          have d1 := cell_of hb2 1
          have hW2 := Lib.hid (f2.out (HBN.out.2.out HH.out.2.2.1 (by simp)) (by simp))
          have hat : a + tx.size ≤ s.size := by omega
          obtain ⟨k2, hk2⟩ : ∃ k2, a + tx.size = k2 := ⟨_, rfl⟩
          have hx1 : (s.extract 0 a).size = a := by simp; omega
          have y3 : ∀ W, (Op.stringOp .add (s.extract 0 a) tx).run Try.prog W = .ok (.string (s.extract 0 a ++ tx)) W := fun W => run_string_add_sum (P := Try.prog) W _ _ (by rw [hx1]; omega)
          have y4 : ∀ W, (Op.stringOp .add (s.extract 0 a ++ tx) (s.extract k2 s.size)).run Try.prog W = .ok (.string (s.extract 0 a ++ tx ++ s.extract k2 s.size)) W := fun W => run_string_add_sum (P := Try.prog) W _ _ (by rw [ByteArray.size_append, hx1]; simp; omega)
          have x1 : IntKind.i64.wrap ((a : Int) + (tx.size : Int)) = (k2 : Int) := by rw [IntKind.wrap_i64]; omega
          have y1 : ∀ W, (Instr.slice 9 (.string s) none (some (.int .i64 (a : Int))) none).run Try.prog W = .ok (.string (s.extract 0 a)) W := fun W => by
            have := run_slice_string_h (P := Try.prog) (w := W) 9 s Try.underlying9 .i64 (a : Int) (by omega) (by omega)
            simpa using this
          have y2 : ∀ W, (Instr.slice 9 (.string s) (some (.int .i64 (k2 : Int))) none none).run Try.prog W = .ok (.string (s.extract k2 s.size)) W := fun W => by
            have := run_slice_string_l (P := Try.prog) (w := W) 9 s Try.underlying9 .i64 (k2 : Int) (by omega) (by omega)
            simpa using this
          have HX := Lib.hid (And.intro x1 (And.intro y1 (And.intro y2 (And.intro y3 y4))))
          have hres := putS_eq s tx a hat
          rw [hk2] at hres
          have HR := Lib.hid hres
          clear hmay hb2 hLn f2 hss hat hk2 b0 b1 b2 b3 x1 y1 y2 y3 y4 hx1 hres
          go_wp2_with fail
          obtain ⟨x1, y1, y2, y3, y4⟩ := HX.out
          go_quiet (fail)
          clear x1 y1 y2 y3 y4
          have hF2 : Hid (Below w.heap.size w (w2.drewN nq)) := Lib.hid ((Fr.drewN [] w2 nq).out hW2.out (by simp))
          generalize w2.drewN nq = W at *
          go_wp2_with fail
          go_roundw
          case rel =>
            refine ⟨k + 1, _, by omega, by go_num, rfl, ?_, ?_, hF2.out⟩
            · rw [allB_take _ l k _ HH.out.2.2.2, HH.out.1, HM.out]; rfl
            · rw [HR.out, applyL_take _ l k _ HH.out.2.2.2, ← HH.out.2.1]
              simp
          case measure => simp [intOf]; omega
      · have hke : k = l.length := by omega
        subst hke
        rw [List.take_of_length_le (Nat.le_refl _)] at hall hS
        obtain ⟨e1, e2⟩ := app_ok (t := t) (l := l) (by rw [HP.out, hall]; rfl)
        have hse : s = ⟨(applyL t.data.toList l).toArray⟩ := by apply ByteArray.ext; apply Array.ext'; simpa using hS
        have HE := Lib.hid (And.intro (e1.trans hse.symm) (And.intro e2 hB))
        clear hall hS hB e1 e2 hse
        go_wp2_with fail
        go_ret2
        rw [HE.out.1, HE.out.2.1]
        exact ⟨rfl, Fr.of_below HE.out.2.2⟩
end Go.Proofs.Ytoicdepkakgedaa
