/- The statement HuffBack: the walk of its Go function, where there is a table. -/
import Derived.Test.YtmnipgmheapfbaaHy
namespace Go.Proofs.Ytmnipgmheapfbaa
open Go.RowKit
set_option linter.unusedVariables false
set_option linter.unusedSimpArgs false

theorem wb_codeW {l : List Nat} {s : Nat} (h : 0 < l.getD s 0) : codeW l s = (wb l s, l.getD s 0) := by
  rw [codeW_eq, if_neg (by omega)]

set_option maxRecDepth 2000000 in
set_option maxHeartbeats 6400000 in
theorem back_any (w : World) (a0 a1 : Option Addr) (c0 c1 : Nat) (x0 x1 : List Nat) (l0 : x0.length ≤ 320) (l1 : x1.length ≤ 200) (hp : 0 < x0.length) (hs : SlOf U8 1 w a0 x0) (h8 : ∀ y ∈ x0, y < 256) (hs1 : SlOf (Un .u16) 1 w a1 x1) (h16 : ∀ y ∈ x1, y < 65536)
    (n1 n2 : Nat) (h1 : n1 < 256) (h2 : n2 < 256) (hk5 : kindN x0 ≠ 5) (hk4 : kindN x0 ≠ 4) (hk3 : kindN x0 ≠ 3) :
    Calls Try.prog 6 #[.slice a0 x0.length c0, .slice a1 x1.length c1, .int .u8 (n1 : Int), .int .u8 (n2 : Int)] w fun e w' => e = .returned (.bool true) ∧ Below w.heap.size w w' := by
  have hf := (tab_of hk5 hk4 hk3).1
  obtain ⟨F1, hF1⟩ : ∃ F, n1 % 12 + 1 = F := ⟨_, rfl⟩
  have e1 : (n1 : Int) % 12 + 1 = (F1 : Int) := by omega
  have B1 := Lib.hid (show 1 ≤ F1 ∧ F1 ≤ 12 by omega)
  have HN := Lib.hid (hnew_any a0 c0 x0 F1 w hs (by omega) h8 (by omega) (by omega) hk5 hk4 hk3)
  have HWR := Lib.hid (fun W (hW : Fr [] w W) => hwrites_any a0 c0 x0 W (hs.below hW.below) (by omega) h8 hk5 hk4)
  have HH := Lib.hid (And.intro hf (And.intro hs (And.intro h8 (And.intro hs1 (And.intro h16 l1)))))
  have i0 : (x0.length : Int) ≤ 320 := by omega
  have i1 : (x1.length : Int) ≤ 200 := by omega
  have i2 : 1 ≤ (x0.length : Int) := by omega
  have i5 : ((x0.length : Int) == 0) = false := by simp; intro h; rw [h] at hp; simp at hp
  have i6 : (n1 : Int) ≤ 255 := by omega
  have i7 : (n2 : Int) ≤ 255 := by omega
  have H2 := Lib.hid h2
  clear hf hs h8 hs1 h16 h1 h2 hk5 hk4 hk3 hF1 l0 l1 hp
  go_enter Try.func6, Try.ntmps6
  go_wp2_with fail
  refine HN.out.mono ?_
  rintro e w1 ⟨ta, rfl, _, hTa, f1⟩
  have HTa := Lib.hid hTa
  have HF1 := Lib.hid f1
  clear f1 hTa HN
  go_wp2_with fail
  refine (HWR.out w1 HF1.out).mono ?_
  rintro e w2 ⟨g, rfl, _, hPW, f2⟩
  have HTa2 := Lib.hid (HTa.out.to f2 (by simp))
  have HPW := Lib.hid hPW
  have HF2 := Lib.hid (HF1.out.trans f2)
  have HSZ := Lib.hid f2.size
  clear f2 hPW HTa HF1 HWR
  go_wp2_with fail
  refine (wnew_any 4096 w2 (by decide)).mono ?_
  rintro e w3 ⟨rfl, h3, f3⟩
  replace h3 : Wr w3 w2.heap.size (.slice none 0 0) 0 0 4096 := h3
  have HS3 := Lib.hid (And.intro h3 (Own2.made f3))
  clear h3 f3
  go_wp2_with fail
  go_loopw [14, 15] (fun vl i wr => ∃ (k : Nat) (ls : List Nat) (va vq : Value), vq = vl ∧ k ≤ x1.length ∧ i = .int .i64 (k : Int) ∧ ls.length ≤ k ∧ (∀ s ∈ ls, s < x0.length ∧ 0 < x0.getD s 0) ∧ Wr wr w2.heap.size va (numS x0 ls) (lenS x0 ls) 4096 ∧ Own2 w2 wr w2.heap.size va ∧ wr.ownsRow w2.heap.size 3 1 vq ls.length (ls.flatMap (Un .i64)) ∧ (∀ j, vq.ownBlock = some j → j ∉ wfp w2.heap.size va)) (fun _ i _ => x1.length - (intOf i).toNat)
  case atStart => exact ⟨0, [], _, _, rfl, Nat.zero_le _, rfl, Nat.le_refl _, by simp, HS3.out.1, HS3.out.2, World.ownsRow_nil _ _ _ _, fun j h => by simp [Value.ownBlock] at h⟩
  case round =>
    obtain ⟨k, ls, va, vl, rfl, hk, rfl, hls, hmem, hW, hO, hR, hD⟩ := hrel
    by_cases hlt : k < x1.length
    · obtain ⟨u, hu⟩ : ∃ u, x1[k]? = some u := ⟨x1[k], List.getElem?_eq_getElem hlt⟩
      obtain ⟨b1, o1, rfl, hbl1, hcell1⟩ := ((HH.out.2.2.2.1.below HF2.out.below).below hO.below) (by intro h; rw [h] at hu; simp at hu)
      have d1 := hcell1 k u hu 0 (.int .u16 (u : Int)) rfl
      rw [Nat.mul_one, Nat.add_zero] at d1
      have hu16 := HH.out.2.2.2.2.1 u (List.mem_of_getElem? hu)
      obtain ⟨s, hs⟩ : ∃ s, u % x0.length = s := ⟨_, rfl⟩
      have hsl : s < x0.length := by rw [← hs]; exact Nat.mod_lt _ (by omega)
      have hmod : (u : Int) % (x0.length : Int) = (s : Int) := by rw [← hs]; simp
      obtain ⟨z, hz⟩ : ∃ z, x0[s]? = some z := ⟨x0[s], List.getElem?_eq_getElem hsl⟩
      obtain ⟨b0, o0, rfl, hbl0, hcell0⟩ := ((HH.out.2.1.below HF2.out.below).below hO.below) (by intro h; rw [h] at hz; simp at hz)
      have d0 := hcell0 s z hz 0 (.int .u8 (z : Int)) rfl
      rw [Nat.mul_one, Nat.add_zero] at d0
      have hz15 := HH.out.1.le z (List.mem_of_getElem? hz)
      have hgd := getD_of hz
      have hzi : (z : Int) ≤ 15 := by omega
      have hui : (u : Int) ≤ 65535 := by omega
      have hki : (k : Int) < (x1.length : Int) := by omega
      have hsi : (s : Int) < (x0.length : Int) := by omega
      by_cases hz0 : z = 0
      · subst hz0
        have HR := Lib.hid (And.intro hls (And.intro hmem (And.intro hW (And.intro hO (And.intro hR hD)))))
        clear hls hmem hW hO hR hD hcell1 hcell0 hu hs hz hgd hbl1 hbl0 hu16 hz15
        go_wp2_with fail
        go_roundw
        case rel => exact ⟨k + 1, ls, va, vl, rfl, by omega, by go_num, by have := HR.out.1; omega, HR.out.2⟩
        case measure => simp [intOf]; omega
      · have hz1 : ((z : Int) == 0) = false := by simp; exact hz0
        have hz2 : ¬ (z : Int) = 0 := by omega
        have hPr : Prow Cd 60 wr g x0.length (codeW x0) := HPW.out.to (Fr.of_below hO.below : Fr [] w2 wr) (by simp)
        have hgl := lt_of hPr
        have k0 := hPr.cell cd_len s 0 hsl (by omega)
        have k1 := hPr.cell cd_len s 1 hsl (by omega)
        rw [wb_codeW (by omega), hgd] at k0 k1
        simp only [Cd, List.getElem?_cons_zero, List.getElem?_cons_succ, Nat.add_zero] at k0 k1
        have hwb := wb_lt' x0 s
        rw [hgd] at hwb
        have hLn := lenS_le HH.out.1.le ls
        have hl1 := HH.out.2.2.2.2.2
        have HC := Lib.hid (fun W (hf : Fr [] wr W) => wcode_ok w2.heap.size va (numS x0 ls) (lenS x0 ls) 4096 (wb x0 s) z W (hW.to hf (by simp)) (by omega) (by decide) hz15 hwb (by omega))
        have hx15 : 2 ^ z ≤ 2 ^ 15 := Nat.pow_le_pow_right (by decide) hz15
        obtain ⟨x, hx⟩ : ∃ x, wb x0 s = x := ⟨_, rfl⟩
        rw [hx] at k0 hwb HC
        have hxi : (x : Int) ≤ 32767 := by omega
        have HR := Lib.hid (And.intro hls (And.intro hmem (And.intro hW (And.intro hO (And.intro hR (And.intro hD (And.intro hgd (And.intro hx hsl))))))))
        have hlsn : (ls.length : Int) ≤ 200 := by omega
        clear hls hmem hW hO hR hD hcell1 hcell0 hu hs hz hgd hbl1 hbl0 hu16 hz15 hwb hx15 hLn hx hPr hl1
        go_wp2_with fail
        refine (HC.out _ (Fr.refl _ _)).mono ?_
        rintro e w5 ⟨rfl, v5, h5, hn5, f5⟩
        have hO5 := HR.out.2.2.2.1.step hn5 f5
        have hR5 := ownsRow_to HR.out.2.2.2.2.1 f5 (fun j hj => HR.out.2.2.2.2.2.1 j hj)
        have hD5 : ∀ j, vl.ownBlock = some j → j ∉ wfp w2.heap.size v5 := fun j hj hm => by
          rcases hn5.mem j hm with h | h
          · exact HR.out.2.2.2.2.2.1 j hj h
          · have := (HR.out.2.2.2.2.1.lt j hj).2; omega
        have hS5 := Lib.hid hR5
        have hB5 := Lib.hid hO5.below
        have hz5 := hO5.below.size
        have H5 := Lib.hid (And.intro h5 (And.intro hO5 hD5))
        clear h5 hn5 f5 hO5 hR5 hD5 HC
        go_wp2_with (at_builtin; go_must (refine wpList_push w2.heap.size w2 w5 rfl (.tmp 103) (.tmp 105) 55 rfl 3 1 8 elemI vl ls.length _ rfl hS5 hB5 hz5 #[.int .i64 (s : Int)] 1 1 rfl rfl rfl (by omega) (by omega) (by omega) ?_); intro g6 cap6 w6 HQ)
        go_roundw
        case rel =>
          obtain ⟨h5, hO5, hD5⟩ := H5.out
          obtain ⟨hls, hmem, hW, hO, hR, hD, hgd, hx, hsl⟩ := HR.out
          have hfa := (Fr.alloc [] w5 (.cells #[.int .i64 (s : Int)] 3))
          have hgr := grown_only HQ.out.grown
          have hno : ∀ i, i ∈ wfp w2.heap.size v5 → i ∉ vl.ownBlock.toList := fun i hi hm => by
            rw [Option.mem_toList] at hm
            exact hD5 i hm hi
          refine ⟨k + 1, ls ++ [s], v5, _, rfl, by omega, by go_num, by simp; omega, ?_, ?_, ?_, ?_, ?_⟩
          · intro t ht
            rcases List.mem_append.1 ht with ht | ht
            · exact hmem t ht
            · rw [List.mem_singleton] at ht; rw [ht]; exact ⟨hsl, by rw [hgd]; omega⟩
          · have := (h5.to hfa (by simp)).to hgr hno
            rw [numS_append, lenS_append]
            simp only [numS, lenS]
            rw [hgd, hx, Nat.mul_zero, Nat.add_zero, Nat.add_zero, Nat.mul_comm (2 ^ lenS x0 ls)]
            exact this
          · exact ⟨HQ.out.below, hO5.new⟩
          · have := HQ.out.own
            rw [List.flatMap_append, List.length_append]
            exact this
          · intro j hj hm
            have hjg : j = g6 := by simp [Value.ownBlock] at hj; exact hj.symm
            subst hjg
            rcases HQ.out.or_ with h | h
            · exact hD5 _ h hm
            · have h7 := h5.st.lt _ hm; have h8 := hfa.size; omega
        case measure => simp [intOf]; omega
    · have hke : k = x1.length := by omega
      subst hke
      have hl1 := HH.out.2.2.2.2.2
      have hLn := lenS_le HH.out.1.le ls
      have HWL := Lib.hid (fun W (hf : Fr [] wr W) => wlen_any w2.heap.size va (numS x0 ls) (lenS x0 ls) 4096 W (hW.to hf (by simp)) (by omega))
      have HWB := Lib.hid (fun W (hf : Fr [] wr W) => wbits_ok w2.heap.size va (numS x0 ls) (lenS x0 ls) 4096 n2 8 W (hW.to hf (by simp)) (by omega) (by decide) (by decide) H2.out (by unfold roomB; exact decide_eq_true (by omega)))
      obtain ⟨ao, cap, hvl⟩ := row_form hR
      subst hvl
      obtain ⟨L, hL⟩ : ∃ L, lenS x0 ls = L := ⟨_, rfl⟩
      have hLi : (L : Int) ≤ 3000 := by omega
      have hlsi : (ls.length : Int) ≤ 200 := by omega
      have HR := Lib.hid (And.intro hmem (And.intro hW (And.intro hO (And.intro hR (And.intro hD hL)))))
      rw [hL] at HWL HWB
      clear hls hmem hW hO hR hD hL hLn hl1
      go_wp2_with fail
      refine (HWL.out _ (Fr.refl _ _)).mono ?_
      rintro e w4 ⟨rfl, nd, hw4⟩
      have f4 : Fr [] wr w4 := by rw [hw4]; exact Fr.drewN _ _ _
      have HF4 := Lib.hid f4
      clear f4 hw4 HWL
      go_wp2_with fail
      refine (HWB.out _ HF4.out).mono ?_
      rintro e w5 ⟨rfl, v5, h5, hn5, f5⟩
      have hO5 := HR.out.2.2.1.quiet HF4.out |>.step hn5 f5
      have hR5 := ownsRow_to (ownsRow_to HR.out.2.2.2.1 HF4.out (by simp)) f5 (fun j hj => HR.out.2.2.2.2.1 j hj)
      obtain ⟨_, _, hsv, hsl5⟩ := slOf_own (un_len .i64) hR5 rfl
      have hao : SlOf (Un .i64) 1 w5 ao ls := by
        cases hsv; exact hsl5
      have hM : numS x0 ls + n2 * 2 ^ L < 2 ^ (L + 8) := h5.lt
      obtain ⟨M, hMM⟩ : ∃ M, numS x0 ls + n2 * 2 ^ L = M := ⟨_, rfl⟩
      rw [hMM] at h5 hM
      have HWT := Lib.hid (wtext_any w2.heap.size v5 M (L + 8) 4096 w5 h5 (by omega))
      have H5 := Lib.hid (And.intro hO5 (And.intro hao (And.intro hMM hM)))
      clear h5 hn5 f5 hO5 hR5 hsl5 hsv hao hMM hM HWB
      go_wp2_with fail
      refine HWT.out.mono ?_
      rintro e w6 ⟨rfl, f6⟩
      have HF6 := Lib.hid f6
      have hTs : (wtext M (L + 8)).size = (L + 8 + 7) / 8 := size_wt _ _
      have hTn := num_wt M (L + 8) H5.out.2.2.2
      generalize wtext M (L + 8) = T at *
      have HT := Lib.hid (And.intro hTs hTn)
      clear hTs hTn f6 HWT
      go_wp2_with fail
      refine (rnew_any T w6).mono ?_
      rintro e w7 ⟨rfl, h7, f7⟩
      have HF7 := Lib.hid (And.intro h7 (HF6.out.trans f7))
      obtain ⟨br, hbr⟩ : ∃ br, w6.heap.size = br := ⟨_, rfl⟩
      rw [hbr] at HF7 ⊢
      have HBR := Lib.hid (And.intro hbr HF6.out.size)
      clear h7 f7 hbr
      have hTsz := HT.out.1
      go_wp2_with fail
      go_loopw [19] (fun i wx => ∃ k : Nat, k ≤ ls.length ∧ i = .int .i64 (k : Int) ∧ Rd wx br T (lenS x0 (ls.take k)) ∧ Fr [br] w7 wx) (fun i _ => ls.length - (intOf i).toNat)
      case atStart => exact ⟨0, Nat.zero_le _, rfl, HF7.out.1, Fr.refl _ _⟩
      case round =>
        obtain ⟨k, hk, rfl, hRd, hfx⟩ := hrel
        have hB5 : Below w5.heap.size w5 wr := hfx.out (HF7.out.2).below (by simp; have := HBR.out; omega)
        have hT7 : Tb wr w1.heap.size ta x0 F1 := (HTa2.out.to (Fr.of_below (H5.out.1.below.trans (hB5.mono H5.out.1.below.size)) : Fr [] w2 wr) (by simp))
        by_cases hkl : k < ls.length
        · obtain ⟨s, hs⟩ : ∃ s, ls[k]? = some s := ⟨ls[k], List.getElem?_eq_getElem hkl⟩
          obtain ⟨b, o, rfl, hbl, hcell⟩ := (H5.out.2.1.below hB5) (by intro h; rw [h] at hs; simp at hs)
          have hmem := HR.out.1 s (List.mem_of_getElem? hs)
          obtain ⟨hi, hse⟩ := List.getElem?_eq_some_iff.1 hs
          have hsp : ls.take k ++ s :: ls.drop (k + 1) = ls := by
            rw [← hse]
            rw [List.getElem_cons_drop, List.take_append_drop]
          have hlen2 : lenS x0 (ls.take k) + (x0.getD s 0 + lenS x0 (ls.drop (k + 1))) = L := by
            have := lenS_append x0 (ls.take k) (s :: ls.drop (k + 1))
            rw [hsp, HR.out.2.2.2.2.2] at this
            simp only [lenS] at this
            omega
          have hnx := next_sym x0 HH.out.1 (ls.take k) (ls.drop (k + 1)) s n2 T hmem.2 (by rw [hsp, HT.out.2, ← H5.out.2.2.1, HR.out.2.2.2.2.2, Nat.mul_comm]) (by rw [hsp, HR.out.2.2.2.2.2, HT.out.1]; omega)
          have hL5 : L ≤ 3000 := by omega
          have HNX := Lib.hid (next_any ta br x0 F1 _ T (lenS x0 (ls.take k)) wr hT7 HH.out.1 (by omega) (by have := B1.out; omega) hRd (by omega) (by omega))
          rw [hnx] at HNX
          have hlen3 : lenS x0 (ls.take (k + 1)) = lenS x0 (ls.take k) + x0.getD s 0 := by
            rw [List.take_succ_eq_append_getElem hi, hse, lenS_append]; simp [lenS]
          have HQ := Lib.hid (And.intro hfx (And.intro hlen3 (And.intro (show b < w5.heap.size from by
            obtain ⟨b', o', h1', h2', _⟩ := H5.out.2.1 (by intro h; rw [h] at hs; simp at hs)
            cases h1'; exact h2') (hcell k s hs 0 (.int .i64 (s : Int)) rfl))))
          have hki : (k : Int) < (ls.length : Int) := by omega
          have hsx : (s : Int) ≤ 320 := by omega
          have hbb : b < br := by have h1 := HQ.out.2.2.1; have h2 := HBR.out; omega
          have HBB := Lib.hid hbb
          clear hB5 hT7 hcell hmem hse hsp hlen2 hnx hlen3 hRd hfx hs hi hbl hbb
          go_wp2_with fail
          refine HNX.out.mono ?_
          rintro e w9 ⟨rfl, hR9, f9⟩
          have d9 : w9.cell? ⟨b, o + k, none⟩ = some (.int .i64 (s : Int)) := by
            have h1 := HQ.out.2.2.2
            rw [Nat.mul_one, Nat.add_zero] at h1
            have hbs : b < wr.heap.size := block_lt_of_cell h1
            have hbb := HBB.out
            rw [← h1]
            simp only [World.cell?]
            rw [f9.block b hbs (by simp; omega)]
          have H9 := Lib.hid (And.intro hR9 f9)
          clear hR9 f9
          go_wp2_with fail
          go_roundw
          case rel => exact ⟨k + 1, by omega, by go_num, by rw [HQ.out.2.1]; exact H9.out.1, HQ.out.1.trans H9.out.2⟩
          case measure => simp [intOf]; omega
        · have hke : k = ls.length := by omega
          subst hke
          rw [List.take_length, HR.out.2.2.2.2.2] at hRd
          have hBE : bitsE T L 8 = 0 := by unfold bitsE; rw [if_neg (by omega), if_neg (by omega)]
          have hBN : bitsN T L 8 = n2 := by
            unfold bitsN
            rw [if_pos hBE]
            unfold peekN peekH
            rw [show min (8 : Int).toNat (8 * T.size - L) = 8 by omega, HT.out.2, ← H5.out.2.2.1]
            have h1 := numS_lt x0 ls
            rw [HR.out.2.2.2.2.2] at h1
            rw [Nat.add_mul_div_right _ _ (Nat.pow_pos (by decide)), Nat.div_eq_of_lt h1, Nat.zero_add, Nat.mod_eq_of_lt H2.out]
          have HBI := Lib.hid (bits_any br T L 8 wr hRd (by omega) (by omega))
          rw [hBE, hBN] at HBI
          have HAT := Lib.hid (fun W (h : Rd W br T (L + 8)) => at_any br T (L + 8) W h)
          have HQ := Lib.hid (And.intro (hfx.out (HF7.out.2).below (by simp; have := HBR.out; omega)) HBR.out)
          clear hRd hfx hBE hBN
          go_wp2_with fail
          refine HBI.out.mono ?_
          rintro e w8 ⟨rfl, hR8, f8⟩
          simp only [if_true] at hR8
          have H8 := Lib.hid (And.intro hR8 f8)
          clear hR8 f8
          go_wp2_with fail
          refine (HAT.out _ H8.out.1).mono ?_
          rintro e w9 ⟨rfl, hw9⟩
          subst hw9
          go_wp2_with fail
          refine (alive_any _).mono ?_
          rintro e w10 ⟨rfl, f10⟩
          have HF10 := Lib.hid f10
          clear f10
          go_wp2_with fail
          go_ret
          refine ⟨rfl, ?_⟩
          have hb1 : Below w.heap.size w w5 := HF2.out.below.trans (H5.out.1.below.mono HF2.out.size)
          have hb2 := hb1.trans (HQ.out.1.mono hb1.size)
          exact HF10.out.out (H8.out.2.out hb2 (by simp; have := HQ.out.2; have := hb1.size; omega)) (by simp)

theorem huffBack_walk (w : World) (a0 : Option Addr) (c0 : Nat) (x0 : List Nat) (l0 : x0.length ≤ maxLen) (s0 : SlOf (Un .u8) 1 w a0 x0) (o0 : ∀ x, x ∈ x0 → x < 256) (a1 : Option Addr) (c1 : Nat) (x1 : List Nat) (l1 : x1.length ≤ maxLen) (s1 : SlOf (Un .u16) 1 w a1 x1) (o1 : ∀ x, x ∈ x1 → x < 65536) (a2 : Int) (w2 : (Lit.int .u8 a2).wf = true) (a3 : Int) (w3 : (Lit.int .u8 a3).wf = true) :
    Calls Try.prog 6 #[.slice a0 x0.length c0, .slice a1 x1.length c1, .int .u8 a2, .int .u8 a3] w fun e w' => e = .returned (.bool true) ∧ Below w.heap.size w w' := by
  rw [un_u8] at s0
  unfold maxLen at l0 l1
  obtain ⟨n1, rfl, h1⟩ := nat_u8 w2
  obtain ⟨n2, rfl, h2⟩ := nat_u8 w3
  by_cases hb : 320 < x0.length ∨ 200 < x1.length ∨ x0.length = 0
  · exact back_big w a0 a1 c0 c1 x0 x1 l0 l1 hb _ _
  by_cases hk5 : kindN x0 = 5
  · exact back_none w a0 a1 c0 c1 x0 x1 (by omega) (by omega) (by omega) n1 h1 _ 2 (by decide) (by decide) (fun f W hf0 hf1 hW => hnew_arg a0 c0 x0 f W (s0.below hW.below) l0 o0 (by omega) (by omega) (.inr (.inr hk5)))
      (fun W hW => (hwrites_bad a0 c0 x0 W (s0.below hW.below) l0 o0 2 (.inl ⟨hk5, rfl⟩)).mono fun e w' ⟨h, f⟩ => ⟨_, _, h, f⟩)
  by_cases hk4 : kindN x0 = 4
  · exact back_none w a0 a1 c0 c1 x0 x1 (by omega) (by omega) (by omega) n1 h1 _ 7 (by decide) (by decide) (fun f W hf0 hf1 hW => hnew_form a0 c0 x0 f W (s0.below hW.below) l0 o0 hf0 (by omega) (.inl hk4))
      (fun W hW => (hwrites_bad a0 c0 x0 W (s0.below hW.below) l0 o0 7 (.inr ⟨hk4, rfl⟩)).mono fun e w' ⟨h, f⟩ => ⟨_, _, h, f⟩)
  by_cases hk3 : kindN x0 = 3
  · exact back_none w a0 a1 c0 c1 x0 x1 (by omega) (by omega) (by omega) n1 h1 _ 7 (by decide) (by decide) (fun f W hf0 hf1 hW => hnew_form a0 c0 x0 f W (s0.below hW.below) l0 o0 hf0 (by omega) (.inr hk3))
      (fun W hW => (hwrites_any a0 c0 x0 W (s0.below hW.below) l0 o0 hk5 hk4).mono fun e w' ⟨g, h, _, _, f⟩ => ⟨_, _, h, f⟩)
  · exact back_any w a0 a1 c0 c1 x0 x1 (by omega) (by omega) (by omega) s0 o0 s1 o1 n1 n2 h1 h2 hk5 hk4 hk3
end Go.Proofs.Ytmnipgmheapfbaa

