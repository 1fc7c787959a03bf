/- The document's Encode. -/
import Derived.Test.YtoicdepkakgedaaMc
import Derived.Test.YtoicdepkakgedaaOw
namespace Go.Proofs.Ytoicdepkakgedaa
open Go.RowKit
set_option linter.unusedVariables false
set_option linter.unusedSimpArgs false

theorem elemB : Elem Try.prog 60 5 1 1 := by
  obtain ⟨i0, hi, hz0, hz1, hz2⟩ := u8info
  exact ⟨Try.underlying60, i0, _, hi, hz0, hz1, hz2, rfl, by decide⟩
theorem elemS : Try.prog.underlying 60 = some (.slice 5) ∧ Try.prog.underlying 9 = some .string ∧ ∃ i, Try.prog.info? 5 = some i ∧ i.zero = some (.int .u8 0) ∧ i.size = 1 ∧ i.bytes = 1 := by
  obtain ⟨i0, hi, hz0, hz1, hz2⟩ := u8info
  exact ⟨Try.underlying60, Try.underlying9, i0, hi, hz0, hz1, hz2⟩
theorem rec_cells (a : Nat) (tx : ByteArray) (ha : a < 65536) (ht : tx.size < 65536) : (Lib.byteCells (recL ⟨(a : Int), tx⟩)) =
    [.int .u8 ((a : Int) % 256), .int .u8 ((a : Int) / 256), .int .u8 ((tx.size : Int) % 256), .int .u8 ((tx.size : Int) / 256)] ++ Lib.byteCells tx.data.toList := by
  simp [recL, lebL, Lib.byteCells]
  omega

set_option maxRecDepth 100000 in
set_option maxHeartbeats 1600000 in
theorem rencode_any (p : Int) (a1 : Option Addr) (c1 : Nat) (l : List Md) (w : World) (hs : SlOf Md.enc 2 w a1 l) (hl : l.length ≤ 1000000000) (hz : sizeN l ≤ 1000000000) :
    Calls Try.prog 13 #[.int .i64 p, .slice a1 l.length c1] w fun e w' => e = .returned (.tuple #[.string (encS p l), .int .i64 (encE p l)]) ∧ Fr [] w w' := by
  have S1 := Lib.hid hs
  have i1 : (l.length : Int) ≤ 1000000000 := by omega
  have HZ := Lib.hid hz
  clear hs hl hz
  go_enter Try.func13, Try.ntmps13
  go_wp2_with fail
  go_loopw [6, 7] (fun b i wr => ∃ (k : Nat) (v : Value), k ≤ l.length ∧ i = .int .i64 k ∧ v = b ∧ allB p (l.take k) = true ∧ wr.ownsRow w.heap.size 5 1 v (sizeN (l.take k)) (Lib.byteCells (logL (l.take k))) ∧ Below w.heap.size w wr) (fun _ i _ => l.length - (intOf i).toNat)
  case atStart => exact ⟨0, _, Nat.zero_le _, rfl, rfl, rfl, World.ownsRow_nil _ _ _ _, Below.refl _ _⟩
  case round =>
    obtain ⟨k, v, hk, rfl, rfl, hall, hS, hB⟩ := hrel
    obtain ⟨wo, rfl⟩ : ∃ wo : World, wo = wr := ⟨_, rfl⟩
    have hBs := hB.size
    by_cases hlt : k < l.length
    · obtain ⟨m, hm⟩ : ∃ m, l[k]? = some m := ⟨l[k], List.getElem?_eq_getElem hlt⟩
      obtain ⟨b, o, rfl, hbl, hcell⟩ := (S1.out.below hB) (by intro h; rw [h] at hlt; simp at hlt)
      obtain ⟨at_, tx⟩ := m
      have k0 := hcell k _ hm 0 (.int .i64 at_) rfl
      have k1 := hcell k _ hm 1 (.string tx) rfl
      simp only [Nat.add_zero] at k0 k1
      rw [← Nat.add_assoc] at k1
      have ht := sizeN_take l k _ hm
      have hle := sizeN_le l (k + 1)
      have hzz := HZ.out
      have hts : tx.size ≤ 1000000000 := by simp only at ht; omega
      have hbn := new_of wo (.cells #[.int .i64 at_, .string tx] 34)
      have hfb : Fr [] wo (wo.alloc (.cells #[.int .i64 at_, .string tx] 34)) := Fr.alloc _ _ _
      have HH := Lib.hid (And.intro hall (And.intro hS (And.intro hB (And.intro hm (And.intro ht hle)))))
      have HBN := Lib.hid (And.intro hbn hfb)
      clear hcell hm ht hle hzz hall hS hB hbn hfb
      cases hmay : mayB p ⟨at_, tx⟩ with
      | false =>
        have HM := Lib.hid hmay
        clear hmay
        go_wp2_with fail
        refine (rmay_any p ⟨at_, tx⟩ _ (by simp only; omega)).mono ?_
        rintro e w2 ⟨rfl, f2⟩
        rw [HM.out]
        go_wp2_with fail
        go_ret2
        have ha := allB_false p l k _ HH.out.2.2.2.1 HM.out
        have e1 : encS p l = ByteArray.empty := by unfold encS; rw [ha]; rfl
        have e2 : encE p l = 2 := by unfold encE; rw [ha]; rfl
        rw [e1, e2]
        exact ⟨rfl, Fr.of_below ((f2.out (HBN.out.2.out HH.out.2.2.1 (by simp)) (by simp)))⟩
      | true =>
        obtain ⟨b0, b1, b2, b3, b4, b5⟩ := mayB_bounds hmay
        simp only at b0 b1 b2 b3
        obtain ⟨a, rfl⟩ := Int.eq_ofNat_of_zero_le b0
        have HM := Lib.hid hmay
        have j1 : (a : Int) ≤ 16384 := by omega
        have j2 : (tx.size : Int) ≤ 16384 := by omega
        clear hmay b0 b1 b2 b3
        go_wp2_with fail
        refine (rmay_any p ⟨(a : Int), tx⟩ _ (by simp only; omega)).mono ?_
        rintro e w2 ⟨rfl, f2⟩
        rw [HM.out]
        have hb2 := f2.blk HBN.out.1 (by simp)
        have d0 := cell_of hb2 0
        have d1 := cell_of hb2 1
        have HB2 := Lib.hid hb2
        have hS2 := Lib.hid (ownsRow_to (ownsRow_to HH.out.2.1 HBN.out.2 (by simp)) f2 (by simp))
        have hW2 := Lib.hid (f2.out (HBN.out.2.out HH.out.2.2.1 (by simp)) (by simp))
        have hsz2 := hW2.out.size
        have hbn : sizeN (l.take k) + 4 + tx.size ≤ 1000000000 := by have := HH.out.2.2.2.2.1; have := HH.out.2.2.2.2.2; have := HZ.out; omega
        have HNE := Lib.hid (own_ne HH.out.2.1 (Nat.le_refl _))
        have HRC := Lib.hid (rec_cells a tx (by omega) (by omega))
        clear hb2
        go_wp2_with (first | (at_builtin; refine wpList_push w.heap.size w w2 rfl (.tmp 23) (.tmp 42) 60 rfl 5 1 1 elemB v _ _ rfl hS2 hW2 hsz2 _ 4 4 rfl rfl rfl (by omega) (by omega) (by omega) ?_; intro g cap w4 HP; have e1 := cell_of (HP.out.keep HB2.out HNE.out) 1; have hg4 := HP.out.below.size; have HO := Lib.hid HP.out.own; have HB4 := Lib.hid HP.out.below) | (at_builtin; refine wpList_text w.heap.size w w4 rfl (.tmp 44) (.tmp 46) 60 9 rfl 5 elemS (.slice (some ⟨g, 0, none⟩) (sizeN (l.take k) + 4) cap) _ _ rfl HO HB4 hg4 tx rfl (by omega) ?_; intro ao cap5 w5 HQ))
        go_roundw
        case rel =>
          refine ⟨k + 1, _, by omega, by go_num, rfl, ?_, ?_, HQ.out.below⟩
          · rw [allB_take p l k _ HH.out.2.2.2.1, HH.out.1, HM.out]; rfl
          · have := HQ.out.own
            have hz4 : sizeN (l.take (k + 1)) = sizeN (l.take k) + 4 + tx.size := by have := HH.out.2.2.2.2.1; omega
            rw [logL_take l k _ HH.out.2.2.2.1, hz4]
            rw [show Lib.byteCells (logL (l.take k) ++ recL ⟨(a : Int), tx⟩) = Lib.byteCells (logL (l.take k)) ++ Lib.byteCells (recL ⟨(a : Int), tx⟩) by simp [Lib.byteCells], HRC.out, ← List.append_assoc]
            exact this
        case measure => simp [intOf]; omega
    · have hke : k = l.length := by omega
      subst hke
      rw [List.take_of_length_le (Nat.le_refl _)] at hall hS
      have e1 : encS p l = ⟨(logL l).toArray⟩ := by unfold encS; rw [hall]; rfl
      have e2 : encE p l = 0 := by unfold encE; rw [hall]; rfl
      have hcv := run_convert_own wo 60 9 5 Try.underlying60 Try.underlying5 Try.underlying9 _ _ _ _ hS
      have HE := Lib.hid (And.intro e1 (And.intro e2 hB))
      clear hall hS hB e1 e2
      go_wp2_with fail
      go_ret2
      rw [HE.out.1, HE.out.2.1]
      exact ⟨rfl, Fr.of_below HE.out.2.2⟩
end Go.Proofs.Ytoicdepkakgedaa
