/- Package mods: Encode; and the document's. -/
import Derived.Test.YtoicdepkakgedaaMb
import Derived.Test.YtoicdepkakgedaaBu
namespace Go.Proofs.Ytoicdepkakgedaa
open Go.RowKit
set_option linter.unusedVariables false
set_option linter.unusedSimpArgs false

theorem allB_take (p : Int) (l : List Md) (k : Nat) (m : Md) (h : l[k]? = some m) : allB p (l.take (k + 1)) = (allB p (l.take k) && mayB p m) := by
  obtain ⟨hi, he⟩ := List.getElem?_eq_some_iff.1 h
  rw [List.take_succ_eq_append_getElem hi, allB, List.all_append, he]
  simp [allB]
theorem allB_false (p : Int) (l : List Md) (k : Nat) (m : Md) (h : l[k]? = some m) (hm : mayB p m = false) : allB p l = false := by
  cases ha : allB p l with
  | false => rfl
  | true =>
    rw [allB, List.all_eq_true] at ha
    have := ha m (List.mem_of_getElem? h)
    rw [hm] at this
    cases this
theorem put2 (a : Nat) (h : a < 65536) : putS a 2 = leb a 2 ∧ putB a 2 = true := by
  have e : putB a 2 = true := by unfold putB; apply decide_eq_true; exact ⟨by omega, by omega, by simpa using h⟩
  exact ⟨by unfold putS; rw [e]; rfl, e⟩

theorem run_index_two (w : World) (x y i : Nat) (hi : i < 2) (n : Nat) (hn : n = if i = 0 then x else y) : (Instr.index 63 (.agg #[.int .i64 (x : Int), .int .i64 (y : Int)]) (.int .i64 (i : Int))).run Try.prog w = .ok (.int .i64 (n : Int)) w := by
  rcases (show i = 0 ∨ i = 1 by omega) with rfl | rfl
  · subst hn; kernel_rfl
  · subst hn; kernel_rfl
theorem two_take (x y i : Nat) (hi : i < 2) (n : Nat) (hn : n = if i = 0 then x else y) : (lebL x 2 ++ lebL y 2).take (2 * i) ++ lebL n 2 = (lebL x 2 ++ lebL y 2).take (2 * (i + 1)) := by
  rcases (show i = 0 ∨ i = 1 by omega) with rfl | rfl
  · subst hn; simp [lebL]
  · subst hn; simp [lebL]

set_option maxRecDepth 100000 in
set_option maxHeartbeats 1600000 in
theorem encode_any (p : Int) (a1 : Option Addr) (c1 : Nat) (l : List Md) (w : World) (hs : SlOf Md.enc 2 w a1 l) (hl : l.length ≤ 1000000000) (hz : sizeN l ≤ 1000000000) :
    Calls Try.prog 12 #[.int .i64 p, .slice a1 l.length c1] w fun e w' => e = .returned (.tuple #[.string (encS p l), .int .i64 (encE p l)]) ∧ Fr [] w w' := by
  have S1 := Lib.hid hs
  have i1 : (l.length : Int) ≤ 1000000000 := by omega
  have HZ := Lib.hid hz
  have hfr := Lib.hid (Sbw.fresh w)
  have hf0 := Lib.hid (Fr.alloc [] w (.cells #[.pointer none, .slice none 0 0] 62)).below
  clear hs hl hz
  go_enter Try.func12, Try.ntmps12
  go_wp2_with fail
  go_loopw [15] (fun i wr => ∃ (k : Nat) (v : Value), k ≤ l.length ∧ i = .int .i64 k ∧ allB p (l.take k) = true ∧ Sbw w.heap.size wr w.heap.size v (logL (l.take k)) ∧ Below w.heap.size w wr) (fun i _ => l.length - (intOf i).toNat)
  case atStart => exact ⟨0, _, Nat.zero_le _, rfl, rfl, hfr.out, hf0.out⟩
  case round =>
    obtain ⟨k, v, hk, rfl, hall, hS, hB⟩ := hrel
    obtain ⟨wo, rfl⟩ : ∃ wo : World, wo = wr := ⟨_, rfl⟩
    have hBs := hB.size
    by_cases hlt : k < l.length
    · obtain ⟨m, hm⟩ : ∃ m, l[k]? = some m := ⟨l[k], List.getElem?_eq_getElem hlt⟩
      obtain ⟨b, o, rfl, hbl, hcell⟩ := (S1.out.below hB) (by intro h; rw [h] at hlt; simp at hlt)
      obtain ⟨at_, tx⟩ := m
      have k0 := hcell k _ hm 0 (.int .i64 at_) rfl
      have k1 := hcell k _ hm 1 (.string tx) rfl
      simp only [Nat.add_zero] at k0 k1
      rw [← Nat.add_assoc] at k1
      have ht := sizeN_take l k _ hm
      have hle := sizeN_le l (k + 1)
      have hzz := HZ.out
      have hts : tx.size ≤ 1000000000 := by simp only at ht; omega
      have hbn := new_of wo (.cells #[.int .i64 at_, .string tx] 34)
      have hfb : Fr [] wo (wo.alloc (.cells #[.int .i64 at_, .string tx] 34)) := Fr.alloc _ _ _
      have HH := Lib.hid (And.intro hall (And.intro hS (And.intro hB (And.intro hm (And.intro ht hle)))))
      have HBN := Lib.hid (And.intro hbn hfb)
      clear hcell hm ht hle hzz hall hS hB hbn hfb
      cases hmay : mayB p ⟨at_, tx⟩ with
      | false =>
        have HM := Lib.hid hmay
        clear hmay
        go_wp2_with fail
        refine (may_any p ⟨at_, tx⟩ _ (by simp only; omega)).mono ?_
        rintro e w2 ⟨rfl, f2⟩
        rw [HM.out]
        go_wp2_with fail
        go_ret2
        have ha := allB_false p l k _ HH.out.2.2.2.1 HM.out
        have e1 : encS p l = ByteArray.empty := by unfold encS; rw [ha]; rfl
        have e2 : encE p l = 2 := by unfold encE; rw [ha]; rfl
        rw [e1, e2]
        exact ⟨rfl, Fr.of_below ((f2.out (HBN.out.2.out HH.out.2.2.1 (by simp)) (by simp)))⟩
      | true =>
        obtain ⟨b0, b1, b2, b3, b4, b5⟩ := mayB_bounds hmay
        simp only at b0 b1 b2 b3
        obtain ⟨a, rfl⟩ := Int.eq_ofNat_of_zero_le b0
        have HM := Lib.hid hmay
        have j1 : (a : Int) ≤ 16384 := by omega
        have j2 : (tx.size : Int) ≤ 16384 := by omega
        have wa : IntKind.u64.wrap (a : Int) = (a : Int) := by rw [IntKind.wrap_u64]; omega
        have ws : IntKind.u64.wrap (tx.size : Int) = (tx.size : Int) := by rw [IntKind.wrap_u64]; omega
        have HP := Lib.hid (And.intro (put2 a (by omega)) (put2 tx.size (by omega)))
        clear hmay b0 b1 b2 b3
        go_wp2_with fail
        refine (may_any p ⟨(a : Int), tx⟩ _ (by simp only; omega)).mono ?_
        rintro e w2 ⟨rfl, f2⟩
        rw [HM.out]
        have hb2 := f2.blk HBN.out.1 (by simp)
        have d0 := cell_of hb2 0
        have d1 := cell_of hb2 1
        have HB2 := Lib.hid hb2
        have hS2 := Lib.hid ((HH.out.2.1.to HBN.out.2 (by simp)).to f2 (by simp))
        have hW2 := Lib.hid (f2.out (HBN.out.2.out HH.out.2.2.1 (by simp)) (by simp))
        have hnm : wo.heap.size ∉ wfp w.heap.size v := fun hi => by have := HH.out.2.1.inb _ hi; omega
        have HNM := Lib.hid hnm
        clear hb2 hnm
        go_wp2_with fail
        go_loopw [29] (fun j w3 => ∃ (i : Nat) (v3 : Value), i ≤ 2 ∧ j = .int .i64 i ∧ Sbw w.heap.size w3 w.heap.size v3 (logL (l.take k) ++ (lebL a 2 ++ lebL tx.size 2).take (2 * i)) ∧ wo.heap.size ∉ wfp w.heap.size v3 ∧ wo.heap.size < w3.heap.size ∧ w3.heap[wo.heap.size]? = some (.cells #[.int .i64 a, .string tx] 34 (0, 0)) ∧ Below w.heap.size w w3) (fun j _ => 2 - (intOf j).toNat)
        case atStart => exact ⟨0, v, by omega, rfl, by simpa using hS2.out, HNM.out, lt_of HB2.out, HB2.out, hW2.out⟩
        case round =>
          obtain ⟨i, v3, hi, rfl, hS3, hn3, hlt3, hb3, hB3⟩ := hrel
          by_cases hi2 : i < 2
          · obtain ⟨n, hn⟩ : ∃ n, n = if i = 0 then a else tx.size := ⟨_, rfl⟩
            have hn1 : n ≤ 16384 := by rw [hn]; split <;> omega
            have hn1i : (n : Int) ≤ 16384 := by omega
            have hix := run_index_two wr a tx.size i hi2 n hn
            have HL := Lib.hid (two_take a tx.size i hi2 n hn)
            have wn : IntKind.u64.wrap (n : Int) = (n : Int) := by rw [IntKind.wrap_u64]; omega
            have HP2 := Lib.hid (put2 n (by omega))
            have HI := Lib.hid (And.intro hS3 (And.intro hn3 (And.intro hlt3 (And.intro hb3 hB3))))
            have hll := HH.out.2.2.2.2
            have hlen := logL_length (l.take k)
            have hz2 := HZ.out
            have HLEN : Hid ((logL (l.take k)).length + 8 ≤ 2000000000) := Lib.hid (by omega)
            clear hn hS3 hn3 hlt3 hb3 hB3 hll hlen hz2
            go_wp2_with fail
            refine (put_any n 2 _ (by omega) (by omega) (by omega)).mono ?_
            rintro e w4 ⟨rfl, f4⟩
            rw [HP2.out.1, HP2.out.2]
            go_wp2_with fail
            refine (sbWrite w.heap.size w.heap.size v3 _ (leb n 2) w4 (HI.out.1.to f4 (by simp)) (by rw [size_leb, List.length_append, List.length_take]; have := HLEN.out; omega)).mono ?_
            rintro e w5 ⟨rfl, v5, hS5, hn5, f5⟩
            have HF := Lib.hid (And.intro hS5 (And.intro hn5 (And.intro f4 f5)))
            clear hS5 hn5 f4 f5
            go_wp2_with fail
            go_roundw
            case rel =>
              obtain ⟨hS5, hn5, f4, f5⟩ := HF.out
              obtain ⟨hS3, hn3, hlt3, hb3, hB3⟩ := HI.out
              refine ⟨i + 1, v5, by omega, by go_num, ?_, ?_, ?_, ?_, ?_⟩
              · have e : (leb n 2).data.toList = lebL n 2 := by simp [leb]
                rw [e, List.append_assoc, HL.out] at hS5
                exact hS5
              · intro hc
                rcases hn5.mem _ hc with h | h
                · exact hn3 h
                · have := f4.size; omega
              · have := f4.size; have := f5.size; omega
              · exact f5.blk (f4.blk hb3 (by simp)) hn3
              · exact f5.out (f4.out hB3 (by simp)) (fun q hq => hS3.ge q hq)
            case measure => simp [intOf]; omega
          · have hie : i = 2 := by omega
            subst hie
            have c1 := cell_of hb3 1
            have hll := HH.out.2.2.2.2
            have hlen := logL_length (l.take k)
            have hz2 := HZ.out
            have HLEN : Hid ((logL (l.take k)).length + 8 + tx.size ≤ 2000000000) := Lib.hid (by omega)
            have HI := Lib.hid (And.intro hS3 hB3)
            clear hS3 hn3 hlt3 hb3 hB3 hll hlen hz2 hi hi2
            go_wp2_with fail
            refine (sbWrite w.heap.size w.heap.size v3 _ tx wr HI.out.1 (by rw [List.length_append, List.length_take]; have := HLEN.out; omega)).mono ?_
            rintro e w5 ⟨rfl, v5, hS5, hn5, f5⟩
            have HF := Lib.hid (And.intro hS5 (And.intro hn5 f5))
            clear hS5 hn5 f5
            go_wp2_with fail
            go_roundw
            case rel =>
              obtain ⟨hS5, hn5, f5⟩ := HF.out
              refine ⟨k + 1, v5, by omega, by go_num, ?_, ?_, ?_⟩
              · rw [allB_take p l k _ HH.out.2.2.2.1, HH.out.1, HM.out]; rfl
              · rw [logL_take l k _ HH.out.2.2.2.1]
                have e : logL (l.take k) ++ (lebL a 2 ++ lebL tx.size 2).take (2 * 2) ++ tx.data.toList = logL (l.take k) ++ recL ⟨(a : Int), tx⟩ := by
                  have h4 : (lebL a 2 ++ lebL tx.size 2).take (2 * 2) = lebL a 2 ++ lebL tx.size 2 := List.take_of_length_le (by rw [List.length_append, length_lebL, length_lebL]; omega)
                  rw [h4]; simp [recL]
                rw [e] at hS5
                exact hS5
              · exact f5.out HI.out.2 (fun q hq => HI.out.1.ge q hq)
            case measure => simp [intOf]; omega
    · have hke : k = l.length := by omega
      subst hke
      rw [List.take_of_length_le (Nat.le_refl _)] at hall hS
      have e1 : encS p l = ⟨(logL l).toArray⟩ := by unfold encS; rw [hall]; rfl
      have e2 : encE p l = 0 := by unfold encE; rw [hall]; rfl
      have HE := Lib.hid (And.intro e1 (And.intro e2 (And.intro hS hB)))
      clear hall hS hB e1 e2
      go_wp2_with fail
      refine (sbText w.heap.size w.heap.size v (logL l) _ HE.out.2.2.1).mono ?_
      rintro e w2 ⟨rfl, hb2⟩
      go_wp2_with fail
      go_ret2
      rw [HE.out.1, HE.out.2.1]
      exact ⟨rfl, Fr.of_below (HE.out.2.2.2.trans hb2)⟩
end Go.Proofs.Ytoicdepkakgedaa
