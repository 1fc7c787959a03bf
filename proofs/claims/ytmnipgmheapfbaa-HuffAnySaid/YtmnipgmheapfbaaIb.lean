/- The statement HuffAny: the walk of its Go function, where there is a table. -/
import Derived.Test.YtmnipgmheapfbaaIa
namespace Go.Proofs.Ytmnipgmheapfbaa
open Go.RowKit
set_option linter.unusedVariables false
set_option linter.unusedSimpArgs false

set_option maxRecDepth 2000000 in
set_option maxHeartbeats 6400000 in
theorem any_any (w : World) (a0 : Option Addr) (c0 : Nat) (x0 : List Nat) (s : ByteArray) (l0 : x0.length ≤ 320) (l1 : s.size ≤ 200) (hs : SlOf U8 1 w a0 x0) (h8 : ∀ y ∈ x0, y < 256) (n1 : Nat) (h1 : n1 < 256) (hk5 : kindN x0 ≠ 5) (hk4 : kindN x0 ≠ 4) (hk3 : kindN x0 ≠ 3) :
    Calls Try.prog 7 #[.slice a0 x0.length c0, .string s, .int .u8 (n1 : Int)] w fun e w' => e = .returned (.bool true) ∧ Below w.heap.size w w' := by
  have hf := (tab_of hk5 hk4 hk3).1
  obtain ⟨F1, hF1⟩ : ∃ F, n1 % 12 + 1 = F := ⟨_, rfl⟩
  have e1 : (n1 : Int) % 12 + 1 = (F1 : Int) := by omega
  have B1 := Lib.hid (show 1 ≤ F1 ∧ F1 ≤ 12 by omega)
  have HN := Lib.hid (hnew_any a0 c0 x0 F1 w hs (by omega) h8 (by omega) (by omega) hk5 hk4 hk3)
  have HWR := Lib.hid (fun W (hW : Fr [] w W) => hwrites_any a0 c0 x0 W (hs.below hW.below) (by omega) h8 hk5 hk4)
  have HH := Lib.hid (And.intro hf (And.intro l0 l1))
  have i0 : (x0.length : Int) ≤ 320 := by omega
  have i1 : (s.size : Int) ≤ 200 := by omega
  have i6 : (n1 : Int) ≤ 255 := by omega
  clear hf hs h8 h1 hk5 hk4 hk3 hF1 l0 l1
  go_enter Try.func7, Try.ntmps7
  go_wp2_with fail
  refine HN.out.mono ?_
  rintro e w1 ⟨ta, rfl, _, hTa, f1⟩
  have HTa := Lib.hid hTa
  have HF1 := Lib.hid f1
  clear f1 hTa HN
  go_wp2_with fail
  refine (HWR.out w1 HF1.out).mono ?_
  rintro e w2 ⟨g, rfl, _, hPW, f2⟩
  have HTa2 := Lib.hid (HTa.out.to f2 (by simp))
  have HPW := Lib.hid hPW
  have HF2 := Lib.hid (HF1.out.trans f2)
  have HSZ := Lib.hid f2.size
  clear f2 hPW HTa HF1 HWR
  go_wp2_with fail
  refine (rnew_any s w2).mono ?_
  rintro e w3 ⟨rfl, h3, f3⟩
  have H3 := Lib.hid (And.intro h3 f3)
  have hsz3 : w2.heap.size < w3.heap.size := lt_of h3
  clear h3 f3
  go_wp2_with fail
  refine (wnew_any 4096 w3 (by decide)).mono ?_
  rintro e w4 ⟨rfl, h4, f4⟩
  replace h4 : Wr w4 w3.heap.size (.slice none 0 0) 0 0 4096 := h4
  obtain ⟨bw, hbw⟩ : ∃ bw, w3.heap.size = bw := ⟨_, rfl⟩
  rw [hbw] at h4 hsz3 ⊢
  obtain ⟨br, hbr⟩ : ∃ br, w2.heap.size = br := ⟨_, rfl⟩
  rw [hbr] at H3 hsz3 ⊢
  have H4 := Lib.hid (And.intro h4 (And.intro (H3.out.1.to f4 (by simp)) (And.intro (H3.out.2.trans f4) (And.intro hbr hsz3))))
  clear h4 f4 hbw hsz3
  go_wp2_with fail
  go_loopw [13] (fun i wr => ∃ (k a : Nat) (va : Value), k ≤ 8 * s.size + 1 ∧ i = .int .i64 (k : Int) ∧ Rd wr br s a ∧ Wr wr bw va (num s % 2 ^ a) a 4096 ∧ Below w2.heap.size w2 wr ∧ (∀ i ∈ wfp bw va, br < i) ∧ a ≤ 8 * s.size) (fun i _ => 8 * s.size + 1 - (intOf i).toNat)
  case atStart =>
    refine ⟨0, 0, .slice none 0 0, by omega, rfl, H4.out.2.1, ?_, H4.out.2.2.1.below, ?_, by omega⟩
    · have := H4.out.1
      rw [Nat.pow_zero, Nat.mod_one]
      exact this
    · intro i hi
      simp [wfp, Value.ownBlock] at hi
      rw [hi]
      exact H4.out.2.2.2.2
  case round =>
    obtain ⟨k, a, va, hk, rfl, hRd, hWr, hB, hno, ha⟩ := hrel
    by_cases hkl : k ≤ 8 * s.size
    · have hki : (k : Int) ≤ 8 * (s.size : Int) := by omega
      have hT : Tb wr w1.heap.size ta x0 F1 := HTa2.out.to (Fr.of_below hB : Fr [] w2 wr) (by simp)
      have HNX := Lib.hid (next_any ta br x0 F1 _ s a wr hT HH.out.1 HH.out.2.1 (by have := B1.out; omega) hRd (by have := HH.out.2.2; omega) ha)
      have HAT := Lib.hid (at_any br s a wr hRd)
      have HIS := Lib.hid (next_is x0 HH.out.1 s a)
      have HEN := Lib.hid (next_end x0 HH.out.1 s a)
      have herr := nextN_err x0 s a
      obtain ⟨r0, r1, r2, hR⟩ : ∃ r0 r1 r2, nextN x0 s a = (r0, r1, r2) := ⟨_, _, _, rfl⟩
      rw [hR] at HNX HIS HEN herr
      simp only at HNX HIS HEN herr
      have HR := Lib.hid (And.intro hRd (And.intro hWr (And.intro hB (And.intro hno ha))))
      clear hRd hWr hB hno ha hT hR
      rcases herr with h2 | ⟨h2, h0, h1⟩ | ⟨h2, h0, h1⟩
      · subst h2
        obtain ⟨q1, q2, q3, q4, q5⟩ := HIS.out rfl
        have hPr : Prow Cd 60 wr g x0.length (codeW x0) := HPW.out.to (Fr.of_below HR.out.2.2.1 : Fr [] w2 wr) (by simp)
        have hgb : g < br := by have := lt_of HPW.out; have := H4.out.2.2.2.1; omega
        have k0 := hPr.cell cd_len r0 0 q2 (by omega)
        have k1 := hPr.cell cd_len r0 1 q2 (by omega)
        have hcw : codeW x0 r0 = (wb x0 r0, x0.getD r0 0) := by rw [codeW_eq, if_neg (by omega)]
        rw [hcw, ← q3] at k0 k1
        simp only [Cd, List.getElem?_cons_zero, List.getElem?_cons_succ, Nat.add_zero] at k0 k1
        have hr15 := getD_le HH.out.1.le r0
        rw [← q3] at hr15
        have hwl := wb_lt' x0 r0
        rw [← q3] at hwl
        have hx15 : 2 ^ r1 ≤ 2 ^ 15 := Nat.pow_le_pow_right (by decide) hr15
        obtain ⟨x, hx⟩ : ∃ x, wb x0 r0 = x := ⟨_, rfl⟩
        rw [hx] at k0 hwl q5
        have hl1 := HH.out.2.2
        have HC := Lib.hid (fun W (h : Wr W bw va (num s % 2 ^ a) a 4096) => wcode_ok bw va (num s % 2 ^ a) a 4096 x r1 W h (by omega) (by decide) hr15 hwl (by omega))
        have hmm := mod_more (num s) a r1
        rw [q5] at hmm
        rw [hmm] at HC
        have HP := Lib.hid (And.intro hPr (And.intro hgb (And.intro q4 (lt_of hPr))))
        have hr0 : (r0 : Int) ≤ 320 := by omega
        have hr0l : (r0 : Int) < (x0.length : Int) := by omega
        have hr0n : decide ((r0 : Int) < 0) = false := by simp
        have hr0m : decide (x0.length ≤ r0) = false := by simp; omega
        have hr1 : (r1 : Int) ≤ 15 := by omega
        have hxi : (x : Int) ≤ 32767 := by omega
        have hai : (a : Int) ≤ 1600 := by omega
        clear q1 q2 q3 q4 q5 hPr hgb hcw hr15 hwl hx15 hx hl1 hmm HIS HEN
        go_wp2_with fail
        refine HAT.out.mono ?_
        rintro e w5 ⟨rfl, hw5⟩
        replace hw5 := hw5.symm
        subst hw5
        go_wp2_with fail
        refine HNX.out.mono ?_
        rintro e w6 ⟨rfl, hR6, f6⟩
        obtain ⟨a', haa⟩ : ∃ a', a + r1 = a' := ⟨_, rfl⟩
        rw [haa] at hR6 HC
        have hsub : (a' : Int) - (a : Int) = (r1 : Int) := by omega
        have ha'i : (a' : Int) ≤ 1600 := by have := HP.out.2.2.1; have := HH.out.2.2; omega
        have hgs := HP.out.2.2.2
        have k0' : w6.cell? ⟨g, r0 * 2, none⟩ = some (.int .u32 (x : Int)) := by
          rw [← k0]; simp only [World.cell?]; rw [f6.block g hgs (by simp; have := HP.out.2.1; omega)]
        have k1' : w6.cell? ⟨g, r0 * 2 + 1, none⟩ = some (.int .u8 (r1 : Int)) := by
          rw [← k1]; simp only [World.cell?]; rw [f6.block g hgs (by simp; have := HP.out.2.1; omega)]
        have hW6 := HR.out.2.1.to f6 (fun i hi => by have := HR.out.2.2.2.1 i hi; simp; omega)
        have HAT6 := Lib.hid (fun W (h : Rd W br s a') => at_any br s a' W h)
        have H6 := Lib.hid (And.intro hR6 (And.intro f6 (And.intro hW6 haa)))
        clear hR6 f6 hW6 haa k0 k1 hgs
        go_wp2_with fail
        refine wp_region_quiet_tail 27 (by kernel_rfl) (by kernel_rfl) ?_
        simp only [List.take_succ_cons, List.take_zero, List.drop_succ_cons, List.drop_zero]
        repeat go_big_quiet_step (fail)
        (go_big_quiet_want; go_big_quiet_op; refine ⟨_, HAT6.out _ (H6.out.1.to (Fr.drew (Fr.refl [] _)) (by simp)), ?_⟩; go_big_quiet_on)
        repeat go_big_quiet_step (fail)
        refine wpQuiet_nil ?_
        go_wp2_with fail
        refine (HC.out _ (H6.out.2.2.1.to (Fr.drew (Fr.refl [] _)) (by simp))).mono ?_
        rintro e w7 ⟨rfl, v7, h7, n7, f7⟩
        have H7 := Lib.hid (And.intro h7 (And.intro n7 f7))
        clear h7 n7 f7
        go_wp2_with fail
        go_roundw
        case rel =>
          obtain ⟨h7, n7, f7⟩ := H7.out
          obtain ⟨hR6, f6, hW6, haa⟩ := H6.out
          have hno := HR.out.2.2.2.1
          have hbr := H4.out.2.2.2.1
          refine ⟨k + 1, a', v7, by omega, by go_num, hR6.to ((Fr.drew (Fr.refl _ _)).trans f7) (fun hm => by have := hno _ hm; omega), h7, ?_, ?_, by have := HP.out.2.2.1; omega⟩
          · exact f7.out ((Fr.drew (Fr.refl [br] _)).out (f6.out HR.out.2.2.1 (by simp; omega)) (by simp; omega)) (fun i hi => by have := hno i hi; omega)
          · intro i hi
            rcases n7.mem i hi with h | h
            · exact hno i h
            · have h9 := lt_of hR6
              have h10 : w6.heap.size ≤ i := h
              omega
        case measure => simp [intOf]; omega
      · subst h2 h0 h1
        have hle := HEN.out
        clear HIS HEN
        go_wp2_with fail
        refine HAT.out.mono ?_
        rintro e w5 ⟨rfl, hw5⟩
        replace hw5 := hw5.symm
        subst hw5
        go_wp2_with fail
        refine HNX.out.mono ?_
        rintro e w6 ⟨rfl, hR6, f6⟩
        rw [Nat.add_zero] at hR6
        have HAT6 := Lib.hid (at_any br s a _ hR6)
        have HW6 := Lib.hid (HR.out.2.1.to f6 (fun i hi => by have := HR.out.2.2.2.1 i hi; simp; omega))
        have HB6 := Lib.hid (f6.out HR.out.2.2.1 (by simp; have := H4.out.2.2.2.1; omega))
        have HR6 := Lib.hid hR6
        clear hR6 f6 HNX
        go_wp2_with fail
        refine HAT6.out.mono ?_
        rintro e w7 ⟨rfl, hw7⟩
        replace hw7 := hw7.symm
        subst hw7
        clear hle
        have HX := Lib.hid (And.intro HR6.out (And.intro HW6.out (And.intro HB6.out HR.out.2.2.2.2)))
        go_wp2_with fail
        refine (at_any br s a _ HX.out.1).mono ?_
        rintro e wA ⟨rfl, hwA⟩
        replace hwA := hwA.symm
        subst hwA
        go_wp2_with fail
        refine (rnew_any s _).mono ?_
        rintro e wB ⟨rfl, hRB, fB⟩
        have HB := Lib.hid (And.intro hRB fB)
        have hWB := HX.out.2.1.to fB (by simp)
        have HT := Lib.hid (wtext_any bw va (num s % 2 ^ a) a 4096 wB hWB (by have := HX.out.2.2.2; omega))
        have HWB := Lib.hid hWB
        clear hRB fB hWB
        go_wp2_with fail
        refine HT.out.mono ?_
        rintro e wC ⟨rfl, fC⟩
        have HC := Lib.hid fC
        have hTs : (wtext (num s % 2 ^ a) a).size = (a + 7) / 8 := size_wt _ _
        have hTn : num (wtext (num s % 2 ^ a) a) = num s % 2 ^ a := num_wt _ a (Nat.mod_lt _ (Nat.pow_pos (by decide)))
        generalize wtext (num s % 2 ^ a) a = T at *
        have HTT := Lib.hid (And.intro hTs hTn)
        clear hTs hTn fC HT
        go_wp2_with fail
        refine (rnew_any T _).mono ?_
        rintro e wD ⟨rfl, hRD, fD⟩
        have HD := Lib.hid (And.intro hRD fD)
        have hWD := HWB.out.to (HC.out.trans fD) (by simp)
        have HL := Lib.hid (wlen_any bw va (num s % 2 ^ a) a 4096 wD hWD (by have := HX.out.2.2.2; omega))
        clear hRD fD hWD
        go_wp2_with fail
        refine HL.out.mono ?_
        rintro e wE ⟨rfl, nE, hwE⟩
        have fE : Fr [] wD wE := by rw [hwE]; exact Fr.drewN _ _ _
        have HE := Lib.hid (And.intro (((HB.out.1.to HC.out (by simp)).to HD.out.2 (by simp)).to fE (by simp)) (And.intro (HD.out.1.to fE (by simp)) (And.intro (((HB.out.2.trans HC.out).trans HD.out.2).trans fE) (And.intro (lt_of (HB.out.1.to HC.out (by simp))) HB.out.2.size))))
        have hai : (a : Int) ≤ 1600 := by have := HX.out.2.2.2; omega
        clear fE hwE HL
        obtain ⟨bx, hbx⟩ : ∃ bx, (World.heap w6).size = bx := ⟨_, rfl⟩
        obtain ⟨by_, hby⟩ : ∃ by_, wC.heap.size = by_ := ⟨_, rfl⟩
        rw [hbx] at HE ⊢
        rw [hby] at HE ⊢
        have HBX := Lib.hid hbx
        clear hbx hby
        go_wp2_with fail
        go_loopw [20] (fun i wy => ∃ j : Nat, j ≤ a ∧ i = .int .i64 (j : Int) ∧ Rd wy bx s j ∧ Rd wy by_ T j ∧ Fr [bx, by_] wE wy) (fun i _ => a - (intOf i).toNat)
        case atStart => exact ⟨0, Nat.zero_le _, rfl, HE.out.1, HE.out.2.1, Fr.refl _ _⟩
        case round =>
          obtain ⟨j, hj, rfl, hx, hy, hfy⟩ := hrel
          have hlt := HE.out.2.2.2.1
          have hle := HE.out.2.2.2.2
          have hax := HX.out.2.2.2
          by_cases hja : j < a
          · have o1 := one_bit s j (by omega)
            have o2 := one_bit T j (by have := HTT.out.1; omega)
            have hsame : num s / 2 ^ j % 2 ^ 1 = num T / 2 ^ j % 2 ^ 1 := by rw [HTT.out.2, bit_mod _ a j hja]
            rw [hsame] at o1
            obtain ⟨z, hz⟩ : ∃ z, num T / 2 ^ j % 2 ^ 1 = z := ⟨_, rfl⟩
            rw [hz] at o1 o2
            have H1 := Lib.hid (bits_any bx s j 1 _ hx (by omega) (by omega))
            rw [o1.1, o1.2] at H1
            have H2 := Lib.hid (fun W (h : Rd W by_ T j) => bits_any by_ T j 1 W h (by have := HTT.out.1; omega) (by have := HTT.out.1; omega))
            rw [o2.1, o2.2] at H2
            have HQ := Lib.hid (And.intro hy hfy)
            have hne : by_ ≠ bx := by omega
            have HNE := Lib.hid hne
            have hji : (j : Int) < (a : Int) := by omega
            clear hx hy hfy o1 o2 hsame hz hlt hle hax hne
            go_wp2_with fail
            refine H1.out.mono ?_
            rintro e wF ⟨rfl, hxF, fF⟩
            simp only [if_true] at hxF
            have HF := Lib.hid (And.intro hxF fF)
            clear hxF fF
            go_wp2_with fail
            refine (H2.out _ (HQ.out.1.to HF.out.2 (by simp; exact HNE.out))).mono ?_
            rintro e wG ⟨rfl, hyG, fG⟩
            simp only [if_true] at hyG
            have HG := Lib.hid (And.intro hyG fG)
            clear hyG fG
            go_wp2_with fail
            go_roundw
            case rel => exact ⟨j + 1, by omega, by go_num, HF.out.1.to HG.out.2 (by simp; exact fun e => HNE.out e.symm), HG.out.1, HQ.out.2.trans ((HF.out.2.mono (by simp)).trans (HG.out.2.mono (by simp)))⟩
            case measure => simp [intOf]; omega
          · have hje : j = a := by omega
            subst hje
            have HQ := Lib.hid (And.intro hfy (And.intro hlt hle))
            clear hx hy hfy hlt hle hax
            go_wp2_with fail
            refine (alive_any _).mono ?_
            rintro e wH ⟨rfl, fH⟩
            have HH2 := Lib.hid fH
            clear fH
            go_wp2_with fail
            go_ret
            refine ⟨rfl, ?_⟩
            have b1 : Below w.heap.size w w6 := HF2.out.below.trans (HX.out.2.2.1.mono HF2.out.size)
            have b2 := HE.out.2.2.1.out b1 (by simp)
            have b3 := HQ.out.1.out b2 (by simp; have := HBX.out; have := b1.size; have := HQ.out.2; omega)
            exact HH2.out.out b3 (by simp)
      · subst h2 h0 h1
        have hle := HEN.out
        clear HIS HEN
        go_wp2_with fail
        refine HAT.out.mono ?_
        rintro e w5 ⟨rfl, hw5⟩
        replace hw5 := hw5.symm
        subst hw5
        go_wp2_with fail
        refine HNX.out.mono ?_
        rintro e w6 ⟨rfl, hR6, f6⟩
        rw [Nat.add_zero] at hR6
        have HAT6 := Lib.hid (at_any br s a _ hR6)
        have HW6 := Lib.hid (HR.out.2.1.to f6 (fun i hi => by have := HR.out.2.2.2.1 i hi; simp; omega))
        have HB6 := Lib.hid (f6.out HR.out.2.2.1 (by simp; have := H4.out.2.2.2.1; omega))
        have HR6 := Lib.hid hR6
        clear hR6 f6 HNX
        go_wp2_with fail
        refine HAT6.out.mono ?_
        rintro e w7 ⟨rfl, hw7⟩
        replace hw7 := hw7.symm
        subst hw7
        have hle6 := hle trivial
        have HLE := Lib.hid (left_any br s a _ HR6.out (by have := HH.out.2.2; omega) (by have := HR.out.2.2.2.2; omega))
        obtain ⟨lf, hlf⟩ : ∃ lf, 8 * s.size - a = lf := ⟨_, rfl⟩
        rw [hlf] at HLE hle6
        have hlfi : (lf : Int) < 15 := by omega
        have hlfn : decide (15 ≤ (lf : Int)) = false := by simp; omega
        clear hle hlf hle6
        go_wp2_with fail
        refine HLE.out.mono ?_
        rintro e w8 ⟨rfl, nn, hw8⟩
        have f8 : Fr [] w6 w8 := by rw [hw8]; exact Fr.drewN _ _ _
        have HX := Lib.hid (And.intro (HR6.out.to f8 (by simp)) (And.intro (HW6.out.to f8 (by simp)) (And.intro (f8.out HB6.out (by simp)) HR.out.2.2.2.2)))
        clear f8 hw8
        go_wp2_with fail
        refine (at_any br s a _ HX.out.1).mono ?_
        rintro e wA ⟨rfl, hwA⟩
        replace hwA := hwA.symm
        subst hwA
        go_wp2_with fail
        refine (rnew_any s _).mono ?_
        rintro e wB ⟨rfl, hRB, fB⟩
        have HB := Lib.hid (And.intro hRB fB)
        have hWB := HX.out.2.1.to fB (by simp)
        have HT := Lib.hid (wtext_any bw va (num s % 2 ^ a) a 4096 wB hWB (by have := HX.out.2.2.2; omega))
        have HWB := Lib.hid hWB
        clear hRB fB hWB
        go_wp2_with fail
        refine HT.out.mono ?_
        rintro e wC ⟨rfl, fC⟩
        have HC := Lib.hid fC
        have hTs : (wtext (num s % 2 ^ a) a).size = (a + 7) / 8 := size_wt _ _
        have hTn : num (wtext (num s % 2 ^ a) a) = num s % 2 ^ a := num_wt _ a (Nat.mod_lt _ (Nat.pow_pos (by decide)))
        generalize wtext (num s % 2 ^ a) a = T at *
        have HTT := Lib.hid (And.intro hTs hTn)
        clear hTs hTn fC HT
        go_wp2_with fail
        refine (rnew_any T _).mono ?_
        rintro e wD ⟨rfl, hRD, fD⟩
        have HD := Lib.hid (And.intro hRD fD)
        have hWD := HWB.out.to (HC.out.trans fD) (by simp)
        have HL := Lib.hid (wlen_any bw va (num s % 2 ^ a) a 4096 wD hWD (by have := HX.out.2.2.2; omega))
        clear hRD fD hWD
        go_wp2_with fail
        refine HL.out.mono ?_
        rintro e wE ⟨rfl, nE, hwE⟩
        have fE : Fr [] wD wE := by rw [hwE]; exact Fr.drewN _ _ _
        have HE := Lib.hid (And.intro (((HB.out.1.to HC.out (by simp)).to HD.out.2 (by simp)).to fE (by simp)) (And.intro (HD.out.1.to fE (by simp)) (And.intro (((HB.out.2.trans HC.out).trans HD.out.2).trans fE) (And.intro (lt_of (HB.out.1.to HC.out (by simp))) HB.out.2.size))))
        have hai : (a : Int) ≤ 1600 := by have := HX.out.2.2.2; omega
        clear fE hwE HL
        obtain ⟨bx, hbx⟩ : ∃ bx, (World.heap w8).size = bx := ⟨_, rfl⟩
        obtain ⟨by_, hby⟩ : ∃ by_, wC.heap.size = by_ := ⟨_, rfl⟩
        rw [hbx] at HE ⊢
        rw [hby] at HE ⊢
        have HBX := Lib.hid hbx
        clear hbx hby
        go_wp2_with fail
        go_loopw [20] (fun i wy => ∃ j : Nat, j ≤ a ∧ i = .int .i64 (j : Int) ∧ Rd wy bx s j ∧ Rd wy by_ T j ∧ Fr [bx, by_] wE wy) (fun i _ => a - (intOf i).toNat)
        case atStart => exact ⟨0, Nat.zero_le _, rfl, HE.out.1, HE.out.2.1, Fr.refl _ _⟩
        case round =>
          obtain ⟨j, hj, rfl, hx, hy, hfy⟩ := hrel
          have hlt := HE.out.2.2.2.1
          have hle := HE.out.2.2.2.2
          have hax := HX.out.2.2.2
          by_cases hja : j < a
          · have o1 := one_bit s j (by omega)
            have o2 := one_bit T j (by have := HTT.out.1; omega)
            have hsame : num s / 2 ^ j % 2 ^ 1 = num T / 2 ^ j % 2 ^ 1 := by rw [HTT.out.2, bit_mod _ a j hja]
            rw [hsame] at o1
            obtain ⟨z, hz⟩ : ∃ z, num T / 2 ^ j % 2 ^ 1 = z := ⟨_, rfl⟩
            rw [hz] at o1 o2
            have H1 := Lib.hid (bits_any bx s j 1 _ hx (by omega) (by omega))
            rw [o1.1, o1.2] at H1
            have H2 := Lib.hid (fun W (h : Rd W by_ T j) => bits_any by_ T j 1 W h (by have := HTT.out.1; omega) (by have := HTT.out.1; omega))
            rw [o2.1, o2.2] at H2
            have HQ := Lib.hid (And.intro hy hfy)
            have hne : by_ ≠ bx := by omega
            have HNE := Lib.hid hne
            have hji : (j : Int) < (a : Int) := by omega
            clear hx hy hfy o1 o2 hsame hz hlt hle hax hne
            go_wp2_with fail
            refine H1.out.mono ?_
            rintro e wF ⟨rfl, hxF, fF⟩
            simp only [if_true] at hxF
            have HF := Lib.hid (And.intro hxF fF)
            clear hxF fF
            go_wp2_with fail
            refine (H2.out _ (HQ.out.1.to HF.out.2 (by simp; exact HNE.out))).mono ?_
            rintro e wG ⟨rfl, hyG, fG⟩
            simp only [if_true] at hyG
            have HG := Lib.hid (And.intro hyG fG)
            clear hyG fG
            go_wp2_with fail
            go_roundw
            case rel => exact ⟨j + 1, by omega, by go_num, HF.out.1.to HG.out.2 (by simp; exact fun e => HNE.out e.symm), HG.out.1, HQ.out.2.trans ((HF.out.2.mono (by simp)).trans (HG.out.2.mono (by simp)))⟩
            case measure => simp [intOf]; omega
          · have hje : j = a := by omega
            subst hje
            have HQ := Lib.hid (And.intro hfy (And.intro hlt hle))
            clear hx hy hfy hlt hle hax
            go_wp2_with fail
            refine (alive_any _).mono ?_
            rintro e wH ⟨rfl, fH⟩
            have HH2 := Lib.hid fH
            clear fH
            go_wp2_with fail
            go_ret
            refine ⟨rfl, ?_⟩
            have b1 : Below w.heap.size w w8 := HF2.out.below.trans (HX.out.2.2.1.mono HF2.out.size)
            have b2 := HE.out.2.2.1.out b1 (by simp)
            have b3 := HQ.out.1.out b2 (by simp; have := HBX.out; have := b1.size; have := HQ.out.2; omega)
            exact HH2.out.out b3 (by simp)
    · have hki : 8 * (s.size : Int) < (k : Int) := by omega
      have HX := Lib.hid (And.intro hRd (And.intro hWr (And.intro hB ha)))
      clear hRd hWr hB hno ha
      obtain ⟨wz, hwz⟩ : ∃ wz, wz = wr := ⟨wr, rfl⟩
      subst hwz
      go_wp2_with fail
      refine (at_any br s a _ HX.out.1).mono ?_
      rintro e wA ⟨rfl, hwA⟩
      replace hwA := hwA.symm
      subst hwA
      go_wp2_with fail
      refine (rnew_any s _).mono ?_
      rintro e wB ⟨rfl, hRB, fB⟩
      have HB := Lib.hid (And.intro hRB fB)
      have hWB := HX.out.2.1.to fB (by simp)
      have HT := Lib.hid (wtext_any bw va (num s % 2 ^ a) a 4096 wB hWB (by have := HX.out.2.2.2; omega))
      have HWB := Lib.hid hWB
      clear hRB fB hWB
      go_wp2_with fail
      refine HT.out.mono ?_
      rintro e wC ⟨rfl, fC⟩
      have HC := Lib.hid fC
      have hTs : (wtext (num s % 2 ^ a) a).size = (a + 7) / 8 := size_wt _ _
      have hTn : num (wtext (num s % 2 ^ a) a) = num s % 2 ^ a := num_wt _ a (Nat.mod_lt _ (Nat.pow_pos (by decide)))
      generalize wtext (num s % 2 ^ a) a = T at *
      have HTT := Lib.hid (And.intro hTs hTn)
      clear hTs hTn fC HT
      go_wp2_with fail
      refine (rnew_any T _).mono ?_
      rintro e wD ⟨rfl, hRD, fD⟩
      have HD := Lib.hid (And.intro hRD fD)
      have hWD := HWB.out.to (HC.out.trans fD) (by simp)
      have HL := Lib.hid (wlen_any bw va (num s % 2 ^ a) a 4096 wD hWD (by have := HX.out.2.2.2; omega))
      clear hRD fD hWD
      go_wp2_with fail
      refine HL.out.mono ?_
      rintro e wE ⟨rfl, nE, hwE⟩
      have fE : Fr [] wD wE := by rw [hwE]; exact Fr.drewN _ _ _
      have HE := Lib.hid (And.intro (((HB.out.1.to HC.out (by simp)).to HD.out.2 (by simp)).to fE (by simp)) (And.intro (HD.out.1.to fE (by simp)) (And.intro (((HB.out.2.trans HC.out).trans HD.out.2).trans fE) (And.intro (lt_of (HB.out.1.to HC.out (by simp))) HB.out.2.size))))
      have hai : (a : Int) ≤ 1600 := by have := HX.out.2.2.2; omega
      clear fE hwE HL
      obtain ⟨bx, hbx⟩ : ∃ bx, (World.heap wz).size = bx := ⟨_, rfl⟩
      obtain ⟨by_, hby⟩ : ∃ by_, wC.heap.size = by_ := ⟨_, rfl⟩
      rw [hbx] at HE ⊢
      rw [hby] at HE ⊢
      have HBX := Lib.hid hbx
      clear hbx hby
      go_wp2_with fail
      go_loopw [20] (fun i wy => ∃ j : Nat, j ≤ a ∧ i = .int .i64 (j : Int) ∧ Rd wy bx s j ∧ Rd wy by_ T j ∧ Fr [bx, by_] wE wy) (fun i _ => a - (intOf i).toNat)
      case atStart => exact ⟨0, Nat.zero_le _, rfl, HE.out.1, HE.out.2.1, Fr.refl _ _⟩
      case round =>
        obtain ⟨j, hj, rfl, hx, hy, hfy⟩ := hrel
        have hlt := HE.out.2.2.2.1
        have hle := HE.out.2.2.2.2
        have hax := HX.out.2.2.2
        by_cases hja : j < a
        · have o1 := one_bit s j (by omega)
          have o2 := one_bit T j (by have := HTT.out.1; omega)
          have hsame : num s / 2 ^ j % 2 ^ 1 = num T / 2 ^ j % 2 ^ 1 := by rw [HTT.out.2, bit_mod _ a j hja]
          rw [hsame] at o1
          obtain ⟨z, hz⟩ : ∃ z, num T / 2 ^ j % 2 ^ 1 = z := ⟨_, rfl⟩
          rw [hz] at o1 o2
          have H1 := Lib.hid (bits_any bx s j 1 _ hx (by omega) (by omega))
          rw [o1.1, o1.2] at H1
          have H2 := Lib.hid (fun W (h : Rd W by_ T j) => bits_any by_ T j 1 W h (by have := HTT.out.1; omega) (by have := HTT.out.1; omega))
          rw [o2.1, o2.2] at H2
          have HQ := Lib.hid (And.intro hy hfy)
          have hne : by_ ≠ bx := by omega
          have HNE := Lib.hid hne
          have hji : (j : Int) < (a : Int) := by omega
          clear hx hy hfy o1 o2 hsame hz hlt hle hax hne
          go_wp2_with fail
          refine H1.out.mono ?_
          rintro e wF ⟨rfl, hxF, fF⟩
          simp only [if_true] at hxF
          have HF := Lib.hid (And.intro hxF fF)
          clear hxF fF
          go_wp2_with fail
          refine (H2.out _ (HQ.out.1.to HF.out.2 (by simp; exact HNE.out))).mono ?_
          rintro e wG ⟨rfl, hyG, fG⟩
          simp only [if_true] at hyG
          have HG := Lib.hid (And.intro hyG fG)
          clear hyG fG
          go_wp2_with fail
          go_roundw
          case rel => exact ⟨j + 1, by omega, by go_num, HF.out.1.to HG.out.2 (by simp; exact fun e => HNE.out e.symm), HG.out.1, HQ.out.2.trans ((HF.out.2.mono (by simp)).trans (HG.out.2.mono (by simp)))⟩
          case measure => simp [intOf]; omega
        · have hje : j = a := by omega
          subst hje
          have HQ := Lib.hid (And.intro hfy (And.intro hlt hle))
          clear hx hy hfy hlt hle hax
          go_wp2_with fail
          refine (alive_any _).mono ?_
          rintro e wH ⟨rfl, fH⟩
          have HH2 := Lib.hid fH
          clear fH
          go_wp2_with fail
          go_ret
          refine ⟨rfl, ?_⟩
          have b1 : Below w.heap.size w wz := HF2.out.below.trans (HX.out.2.2.1.mono HF2.out.size)
          have b2 := HE.out.2.2.1.out b1 (by simp)
          have b3 := HQ.out.1.out b2 (by simp; have := HBX.out; have := b1.size; have := HQ.out.2; omega)
          exact HH2.out.out b3 (by simp)
end Go.Proofs.Ytmnipgmheapfbaa

