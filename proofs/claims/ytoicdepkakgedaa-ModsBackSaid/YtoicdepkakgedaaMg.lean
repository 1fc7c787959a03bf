/- Package mods: Apply. -/
import Derived.Test.YtoicdepkakgedaaMf
import Derived.Test.YtoicdepkakgedaaBb
namespace Go.Proofs.Ytoicdepkakgedaa
open Go.RowKit
set_option linter.unusedVariables false
set_option linter.unusedSimpArgs false

theorem u8size : (Try.prog.info? 5).map (·.size) = some 1 := by kernel_rfl
theorem app_bad {t : ByteArray} {l : List Md} (h : (pageB t.size && allB t.size l) = false) : appS t l = ByteArray.empty ∧ appE t l = 2 := by unfold appS appE; rw [h]; exact ⟨rfl, rfl⟩
theorem app_ok {t : ByteArray} {l : List Md} (h : (pageB t.size && allB t.size l) = true) : appS t l = ⟨(applyL t.data.toList l).toArray⟩ ∧ appE t l = 0 := by unfold appS appE; rw [h]; exact ⟨rfl, rfl⟩

set_option maxRecDepth 2000000 in
set_option maxHeartbeats 1600000 in
theorem apply_any (t : ByteArray) (a1 : Option Addr) (c1 : Nat) (l : List Md) (w : World) (hs : SlOf Md.enc 2 w a1 l) (hl : l.length ≤ 1000000000) (hz : sizeN l ≤ 1000000000) (ht : t.size ≤ 1000000000) :
    Calls Try.prog 14 #[.string t, .slice a1 l.length c1] w fun e w' => e = .returned (.tuple #[.string (appS t l), .int .i64 (appE t l)]) ∧ Fr [] w w' := by
  have S1 := Lib.hid hs
  have i1 : (l.length : Int) ≤ 1000000000 := by omega
  have i2 : (t.size : Int) ≤ 1000000000 := by omega
  have HZ := Lib.hid hz
  obtain ⟨W1, cap, hcv, hcap, hbb, hf1⟩ := text_bytes (P := Try.prog) w 9 60 5 t Try.underlying9 rfl Try.underlying60 Try.underlying5
  have HB1 := Lib.hid (And.intro hbb hf1)
  have hcapI := Lib.hid hcap
  clear hs hl hz hbb hf1 hcap
  cases hp : pageB t.size with
  | false =>
    obtain ⟨e1, e2⟩ := app_bad (t := t) (l := l) (by rw [hp]; rfl)
    have HE := Lib.hid (And.intro hp (And.intro e1 e2))
    clear hp e1 e2
    go_enter Try.func14, Try.ntmps14
    go_wp2_with fail
    refine (page_any t.size _).mono ?_
    rintro e w1 ⟨rfl, rfl⟩
    rw [HE.out.1]
    go_wp2_with fail
    go_ret2
    rw [HE.out.2.1, HE.out.2.2]
    exact ⟨rfl, HB1.out.2⟩
  | true =>
    have HP := Lib.hid hp
    clear hp
    go_enter Try.func14, Try.ntmps14
    go_wp2_with fail
    refine (page_any t.size _).mono ?_
    rintro e w1 ⟨rfl, rfl⟩
    rw [HP.out]
    clear hcv
    go_wp2_with fail
    go_loopw [17] (fun i wr => ∃ k : Nat, k ≤ l.length ∧ i = .int .i64 k ∧ allB t.size (l.take k) = true ∧ Bb wr w.heap.size 5 (applyL t.data.toList (l.take k)) ∧ Below w.heap.size w wr) (fun i _ => l.length - (intOf i).toNat)
    case atStart => exact ⟨0, Nat.zero_le _, rfl, rfl, HB1.out.1, HB1.out.2.below⟩
    case round =>
      obtain ⟨k, hk, rfl, hall, hS, hB⟩ := hrel
      obtain ⟨wo, rfl⟩ : ∃ wo : World, wo = wr := ⟨_, rfl⟩
      have hBs := hB.size
      by_cases hlt : k < l.length
      · obtain ⟨m, hm⟩ : ∃ m, l[k]? = some m := ⟨l[k], List.getElem?_eq_getElem hlt⟩
        obtain ⟨b, o, rfl, hbl, hcell⟩ := (S1.out.below hB) (by intro h; rw [h] at hlt; simp at hlt)
        obtain ⟨at_, tx⟩ := m
        have k0 := hcell k _ hm 0 (.int .i64 at_) rfl
        have k1 := hcell k _ hm 1 (.string tx) rfl
        simp only [Nat.add_zero] at k0 k1
        rw [← Nat.add_assoc] at k1
        have htk := sizeN_take l k _ hm
        have hle := sizeN_le l (k + 1)
        have hzz := HZ.out
        have hts : tx.size ≤ 1000000000 := by simp only at htk; omega
        have hbn := new_of wo (.cells #[.int .i64 at_, .string tx] 34)
        have hfb : Fr [] wo (wo.alloc (.cells #[.int .i64 at_, .string tx] 34)) := Fr.alloc _ _ _
        have HH := Lib.hid (And.intro hall (And.intro hS (And.intro hB hm)))
        have HBN := Lib.hid (And.intro hbn hfb)
        clear hcell hm htk hle hzz hall hS hB hbn hfb
        go_wp2_with fail
        refine (may_any t.size ⟨at_, tx⟩ _ (by simp only; omega)).mono ?_
        rintro e w2 ⟨rfl, f2⟩
        cases hmay : mayB t.size ⟨at_, tx⟩ with
        | false =>
          have ha := allB_false t.size l k _ HH.out.2.2.2 hmay
          have HE := Lib.hid (app_bad (t := t) (l := l) (by rw [ha]; simp))
          clear hmay ha
          go_wp2_with fail
          go_ret2
          rw [HE.out.1, HE.out.2]
          exact ⟨rfl, Fr.of_below ((f2.out (HBN.out.2.out HH.out.2.2.1 (by simp)) (by simp)))⟩
        | true =>
          obtain ⟨b0, b1, b2, b3, b4, b5⟩ := mayB_bounds hmay
          simp only at b0 b1 b2 b3
          obtain ⟨a, rfl⟩ := Int.eq_ofNat_of_zero_le b0
          have HM := Lib.hid hmay
          have hLn := applyL_length t.data.toList (l.take k) (by simpa using HH.out.1)
          have hlen : (applyL t.data.toList (l.take k)).length = t.size := by rw [hLn]; simp
          have hb2 := f2.blk HBN.out.1 (by simp)
          have d0 := cell_of hb2 0
          have d1 := cell_of hb2 1
          have hBb2 := (HH.out.2.1.to HBN.out.2 (by simp)).to f2 (by simp)
          have hW2 := Lib.hid (f2.out (HBN.out.2.out HH.out.2.2.1 (by simp)) (by simp))
          have hat : a + tx.size ≤ t.size := by omega
          have hal : a < t.size := by omega
          obtain ⟨n1, hn1⟩ : ∃ n1, t.size - a = n1 := ⟨_, rfl⟩
          obtain ⟨c1', hc1⟩ : ∃ c1', cap - a = c1' := ⟨_, rfl⟩
          have hsl : ∀ W, (Instr.slice 60 (.slice (some ⟨w.heap.size, 0, none⟩) t.size cap) (some (.int .i64 (a : Int))) none none).run Try.prog W = .ok (.slice (some ⟨w.heap.size, a, none⟩) n1 c1') W := fun W => by
            have he : Try.prog.elem 60 = 5 := by simp [Program.elem, Try.underlying60]
            rw [run_slice_l W 60 _ _ _ (by rw [he]; exact Try.underlying60) .i64 _ (by omega) (by omega), he, Try.sizeOf5]
            have := hcapI.out
            have hne : ¬ cap = a := by omega
            simp [Result.andThen, sliced, Addr.add, hne, hn1, hc1]
            exact fun h => h.symm
          have HBB := Lib.hid (And.intro hBb2 (And.intro hlen hb2))
          have HN := Lib.hid (And.intro hat (And.intro hal hn1))
          have HSL := Lib.hid hsl
          clear hmay hb2 hBb2 hLn hlen hn1 hc1 f2 hat hal b0 b1 b2 b3 hsl
          go_wp2_with fail
          have hsl := HSL.out
          go_still_tail 6, (by kernel_rfl)
          change wpList _ _ _ _ _ w2.drew
          have hBd := (HBB.out.1).to (Fr.drew (Fr.refl [] w2)) (by simp)
          obtain ⟨W3, hcp, hB3, hF3⟩ := hBd.copy (P := Try.prog) 60 9 3 5 a n1 c1' tx Try.underlying60 u8size (by have := HN.out; omega) (by have := HN.out; rw [HBB.out.2.1]; omega)
          have HW3 := Lib.hid (And.intro hB3 (hF3.out ((Fr.drew (Fr.refl [] w2)).out hW2.out (by simp)) (by simp)))
          refine Lib.wpList_copy_run _ rfl (.tmp 29) (.tmp 31) 60 9 rfl _ _ rfl rfl hcp ?_
          clear hBd hcp hB3 hF3 hsl
          go_wp2_with fail
          go_roundw
          case rel =>
            refine ⟨k + 1, by omega, by go_num, ?_, ?_, HW3.out.2⟩
            · rw [allB_take _ l k _ HH.out.2.2.2, HH.out.1, HM.out]; rfl
            · have := HW3.out.1
              rw [applyL_take _ l k _ HH.out.2.2.2]
              unfold putAt
              simpa using this
          case measure => simp [intOf]; omega
      · have hke : k = l.length := by omega
        subst hke
        rw [List.take_of_length_le (Nat.le_refl _)] at hall hS
        obtain ⟨e1, e2⟩ := app_ok (t := t) (l := l) (by rw [HP.out, hall]; rfl)
        have hLn : (applyL t.data.toList l).length = t.size := by rw [applyL_length _ _ (by simpa using hall)]; simp
        have hcv := hS.text (P := Try.prog) 60 9 Try.underlying60 Try.underlying5 Try.underlying9 t.size cap hLn.symm
        have HE := Lib.hid (And.intro e1 (And.intro e2 hB))
        clear hall hS hB e1 e2 hLn
        go_wp2_with fail
        go_ret2
        rw [HE.out.1, HE.out.2.1]
        exact ⟨rfl, Fr.of_below HE.out.2.2⟩
end Go.Proofs.Ytoicdepkakgedaa
