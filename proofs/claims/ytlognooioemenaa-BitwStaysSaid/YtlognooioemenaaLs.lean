/- The statement BitwStays. -/
import Derived.Test.YtlognooioemenaaLm
import Derived.Lib.IndexBytes
namespace Go.Proofs.Ytlognooioemenaa
open Go.RowKit
set_option linter.unusedVariables false
set_option linter.unusedSimpArgs false

/-- What stands behind a call: more bits, the elder ones as they were; the same ones, if it was refused. -/
structure Grew (N L N2 L2 : Nat) (E : Int) : Prop where
  same : ∃ x, N2 = N + x * 2 ^ L
  le : L ≤ L2
  no : E ≠ 0 → N = N2 ∧ L = L2

theorem Grew.leI {N L N2 L2 : Nat} {E : Int} (g : Grew N L N2 L2 E) : (L : Int) ≤ (L2 : Int) := by have := g.le; omega
theorem Grew.dec {N L N2 L2 : Nat} {E : Int} (g : Grew N L N2 L2 E) : decide (L2 < L) = false := decide_eq_false (by have := g.le; omega)
theorem Grew.ceilI {N L N2 L2 : Nat} {E : Int} (g : Grew N L N2 L2 E) : ((L : Int) + 7) / 8 ≤ ((L2 : Int) + 7) / 8 := by have := g.le; omega
theorem Grew.qI {N L N2 L2 q : Nat} {E : Int} (g : Grew N L N2 L2 E) (hq : L / 8 = q) : (q : Int) ≤ ((L : Int) + 7) / 8 ∧ (q : Int) ≤ ((L2 : Int) + 7) / 8 := by have := g.le; omega
theorem Grew.qlt {N L N2 L2 q r : Nat} {E : Int} (g : Grew N L N2 L2 E) (hq : L / 8 = q) (hr : L % 8 = r) (hr0 : r ≠ 0) : q < (wtext N2 L2).size ∧ q < (wtext N L).size := by
  have := g.le; rw [wtext_size, wtext_size]; omega
theorem Wr.rmI {w : World} {b : Nat} {v : Value} {N L most : Nat} (k : Wr w b v N L most) : ((L : Int) + 7) / 8 ≤ (most : Int) := by have := k.rm; omega
theorem Wr.szb {w : World} {b : Nat} {v : Value} {N L most : Nat} (k : Wr w b v N L most) : (((wtext N L).size : Int) != ((L : Int) + 7) / 8) = false := by
  have : ((wtext N L).size : Int) = ((L : Int) + 7) / 8 := by rw [wtext_size]; omega
  rw [this]; simp
theorem Wr.szm {w : World} {b : Nat} {v : Value} {N L most : Nat} (k : Wr w b v N L most) : ((wtext N L).size : Int) ≤ (most : Int) := by have := k.rm; rw [wtext_size]; omega
theorem Wr.szn {w : World} {b : Nat} {v : Value} {N L most : Nat} (k : Wr w b v N L most) : (wtext N L).size ≤ most := by have := k.rm; rw [wtext_size]; omega
theorem Grew.szd {N L N2 L2 : Nat} {E : Int} (g : Grew N L N2 L2 E) : decide ((wtext N2 L2).size < (wtext N L).size) = false := decide_eq_false (by have := g.le; rw [wtext_size, wtext_size]; omega)
theorem Grew.q2 {N L N2 L2 q : Nat} {E : Int} (g : Grew N L N2 L2 E) (hq : L / 8 = q) : q ≤ (wtext N2 L2).size ∧ q ≤ (wtext N L).size := by have := g.le; rw [wtext_size, wtext_size]; omega
theorem Grew.q2I {N L N2 L2 q : Nat} {E : Int} (g : Grew N L N2 L2 E) (hq : L / 8 = q) : (q : Int) ≤ ((wtext N2 L2).size : Int) ∧ (q : Int) ≤ ((wtext N L).size : Int) := by have := g.le; rw [wtext_size, wtext_size]; omega
theorem slice_to (s : ByteArray) (q : Nat) (h : q ≤ s.size) (x : World) : (Instr.slice 9 (.string s) none (some (.int .i64 (q : Int))) none).run Try.prog x = .ok (.string (s.extract 0 q)) x := by
  have e := run_slice_string_h (P := Try.prog) (w := x) (t := 9) (s := s) Try.underlying9 .i64 (q : Int) (by omega) (by omega)
  simpa using e
theorem wsz (N L : Nat) : ((wtext N L).size : Int) = ((L : Int) + 7) / 8 := by rw [wtext_size]; omega

theorem wtext_take (N x L N2 L2 q : Nat) (h : N2 = N + x * 2 ^ L) (hl : L ≤ L2) (hq : L / 8 = q) : (wtext N2 L2).extract 0 q = (wtext N L).extract 0 q := by
  subst h hq
  apply ByteArray.ext
  apply Array.ext'
  rw [Lib.extract_data, Lib.extract_data]
  simp only [List.drop_zero, Nat.sub_zero, wtext, leb]
  have e1 : (L2 + 7) / 8 = L / 8 + ((L2 + 7) / 8 - L / 8) := by omega
  have e2 : (L + 7) / 8 = L / 8 + ((L + 7) / 8 - L / 8) := by omega
  rw [e1, e2, lebL_add, lebL_add, lebL_same N x L, List.take_left' (length_lebL _ _), List.take_left' (length_lebL _ _)]

theorem wtext_get (N L q : Nat) (h : q < (wtext N L).size) : ((wtext N L)[q]).toNat = N / 2 ^ (8 * q) % 256 := by
  have hl : (lebL N ((L + 7) / 8)).length = (L + 7) / 8 := length_lebL _ _
  rw [wtext_size] at h
  have := numL_get (lebL N ((L + 7) / 8)) q (by omega)
  rw [numL_lebL, pow256] at this
  have e : 8 * ((L + 7) / 8) = 8 * q + (8 * ((L + 7) / 8) - 8 * q) := by omega
  rw [e, Nat.pow_add, Nat.mod_mul_right_div_self] at this
  have e2 : (2:Nat) ^ (8 * ((L + 7) / 8) - 8 * q) = 256 * 2 ^ (8 * ((L + 7) / 8) - 8 * q - 8) := by
    rw [show (256:Nat) = 2 ^ 8 from rfl, ← Nat.pow_add]; congr 1; omega
  rw [e2, Nat.mod_mul_right_mod] at this
  exact this

theorem wtext_low (N x L N2 L2 q r : Nat) (h : N2 = N + x * 2 ^ L) (hN : N < 2 ^ L) (hl : L ≤ L2) (hq : L / 8 = q) (hr : L % 8 = r) (hr0 : r ≠ 0) (h1 : q < (wtext N2 L2).size) (h2 : q < (wtext N L).size) :
    bits .and .u64 (IntKind.u64.wrap (((wtext N2 L2)[q]).toNat : Int)) (maskN (r : Int) : Int) = IntKind.u64.wrap (((wtext N L)[q]).toNat : Int) := by
  have hb1 := ((wtext N2 L2)[q]).toNat_lt
  have hb2 := ((wtext N L)[q]).toNat_lt
  have hwr : ∀ z : Nat, z < 2 ^ 8 → IntKind.u64.wrap (z : Int) = (z : Int) := fun z hz => by rw [IntKind.wrap_u64]; omega
  rw [hwr _ hb1, hwr _ hb2]
  rw [and_maskN _ r (by omega) (by omega), wtext_get _ _ _ h1, wtext_get _ _ _ h2]
  congr 1
  have hr8 : r < 8 := by omega
  have eL : (2:Nat) ^ L = 2 ^ (8 * q) * 2 ^ r := by rw [← Nat.pow_add]; congr 1; omega
  have e3 : (256:Nat) = 2 ^ r * 2 ^ (8 - r) := by rw [← Nat.pow_add, show r + (8 - r) = 8 by omega]
  have hlow : N / 2 ^ (8 * q) < 2 ^ r := by rw [Nat.div_lt_iff_lt_mul (Nat.pow_pos (by decide)), Nat.mul_comm, ← eL]; exact hN
  have hr2 : (2:Nat) ^ r ≤ 2 ^ 8 := Nat.pow_le_pow_right (by decide) (by omega)
  rw [h, eL, Nat.mul_left_comm, Nat.add_mul_div_left _ _ (Nat.pow_pos (by decide))]
  rw [Nat.mod_eq_of_lt (show N / 2 ^ (8 * q) < 256 by omega)]
  rw [e3, Nat.mod_mul_right_mod, Nat.add_mul_mod_self_right, Nat.mod_eq_of_lt hlow]

theorem does_grew {w w' : World} {b : Nat} {v : Value} {N L N' L' most : Nat} {E : Int} (d : Does w w' b v N L N' L' most E) (hx : ∃ x, N' = N + x * 2 ^ L) (hle : L ≤ L') (hE : E = 0 → L' ≤ L + 40000) :
    ∃ v' N2 L2, Wr w' b v' N2 L2 most ∧ NewRow w v v' ∧ Fr (wfp b v) w w' ∧ Grew N L N2 L2 E ∧ (L2 = L ∨ (E = 0 ∧ L2 = L')) := by
  obtain ⟨v', k1, k2, k3⟩ := d.ex
  by_cases h : E = 0
  · rw [if_pos h, if_pos h] at k1
    exact ⟨v', N', L', k1, k2, k3, ⟨hx, hle, fun h' => absurd h h'⟩, .inr ⟨h, rfl⟩⟩
  · rw [if_neg h, if_neg h] at k1
    exact ⟨v', N, L, k1, k2, k3, ⟨⟨0, by simp⟩, Nat.le_refl _, fun _ => ⟨rfl, rfl⟩⟩, .inl rfl⟩

set_option maxRecDepth 100000 in
set_option maxHeartbeats 8000000 in
theorem bitwStays_walk (w : World) (m0 : Int) (w0 : (Lit.int .u8 m0).wf = true) (a1 : Option Addr) (c1 : Nat) (x1 : List Call02) (l1 : x1.length ≤ maxLen) (s1 : SlOf Call02.enc Call02.sz w a1 x1) (o1 : ∀ x, x ∈ x1 → x.ok) :
    Calls Try.prog 5 #[.int .u8 m0, .slice a1 x1.length c1] w fun e w' => e = .returned (.bool true) ∧ Below w.heap.size w w' := by
  obtain ⟨b0, b1⟩ := bounds_u8 w0
  obtain ⟨most, rfl⟩ := Int.eq_ofNat_of_zero_le b0
  have S1 := Lib.hid s1
  have O1 := Lib.hid o1
  have L1 := Lib.hid l1
  clear s1 o1 w0 l1
  go_enter Try.func5, Try.ntmps5
  go_wp2_with fail
  refine (heavy02 w a1 c1 x1 L1.out S1.out O1.out).mono ?_
  rintro e wh ⟨r, rfl, hr, fh⟩
  cases r with
  | true =>
    clear hr
    go_wp2_with fail
    refine (alive02 wh).mono ?_
    rintro e w' ⟨rfl, hb⟩
    go_wp2_with fail
    go_ret
    exact ⟨rfl, (Fr.of_below (l := []) hb).out fh.below (by simp)⟩
  | false =>
    obtain ⟨ht, hn⟩ := hr rfl
    have HT := Lib.hid ht
    have i2 : (x1.length : Int) ≤ 300 := by omega
    clear hr ht
    go_wp2_with fail
    refine (wnew_any (most : Int) wh (by omega)).mono ?_
    rintro e wa ⟨rfl, h1, f1⟩
    rw [Int.toNat_natCast] at h1
    have o1 := Own.made f1
    have H1 := Lib.hid h1
    clear h1
    go_wp2_with fail
    go_loopw [6, 7, 8] (fun t m i wr => ∃ (k N L : Nat) (va : Value), k ≤ x1.length ∧ i = .int .i64 k ∧ t = .string (wtext N L) ∧ m = .int .i64 L ∧ L ≤ 64 * k + 8 * total (x1.take k) ∧ Wr wr wh.heap.size va N L most ∧ Own wh wr wh.heap.size va) (fun _ _ i _ => x1.length - (intOf i).toNat)
    case atStart => exact ⟨0, 0, 0, _, Nat.zero_le _, rfl, rfl, rfl, by simp, H1.out, o1⟩
    case round =>
      obtain ⟨k, N, L, va, hk, rfl, rfl, rfl, hLk, hw, hO⟩ := hrel
      by_cases hlt : k < x1.length
      · obtain ⟨c, hc⟩ : ∃ c, x1[k]? = some c := ⟨x1[k], List.getElem?_eq_getElem hlt⟩
        obtain ⟨⟨o0, o0'⟩, ⟨o2, o3⟩, ⟨o4, o5⟩, o6⟩ := O1.out c (List.mem_of_getElem? hc)
        have hS := (S1.out.below fh.below).below hO.below
        obtain ⟨b, o, rfl, hbl, hcell⟩ := hS (by intro h; rw [h] at hlt; simp at hlt)
        have k0 := hcell k c hc 0 (.int .u8 c.act) rfl
        have k1 := hcell k c hc 1 (.int .u64 c.n) rfl
        have k2 := hcell k c hc 2 (.int .i64 c.size) rfl
        have k3 := hcell k c hc 3 (.string c.s) rfl
        simp only [Call02.sz, Nat.add_zero] at k0 k1 k2 k3
        rw [← Nat.add_assoc] at k1 k2 k3
        have ht1 := total_take x1 k c hc
        have ht2 := total_le x1 (k + 1)
        have hTo := HT.out
        obtain ⟨n, hn'⟩ := Int.eq_ofNat_of_zero_le o2
        have hn64 : n < 2 ^ 64 := by omega
        rw [hn'] at k1
        have hL5 : L ≤ 60000 := by omega
        have hcs : c.s.size ≤ 4096 := by omega
        have HN := Lib.hid (And.intro ht1 (And.intro ht2 hLk))
        have hboxf : Fr [] wr (wr.alloc (.cells #[.int .u8 c.act, .int .u64 n, .int .i64 c.size, .string c.s] 45)) := Fr.alloc _ _ _
        have hw1 := hw.to hboxf (by simp)
        have hO1 := hO.quiet hboxf
        have hlt0 := hw.lt
        have hm8 : c.act % 8 < 5 ∨ c.act % 8 = 5 ∨ c.act % 8 = 6 ∨ c.act % 8 = 7 := by omega
        have hm0 : 0 ≤ c.act % 8 := by omega
        have HLT := Lib.hid hlt0
        have HW1 := Lib.hid hw1
        clear hcell hc ht1 ht2 hTo hn' o2 o3 hS hLk hboxf hw hO hw1 hlt0
        rcases hm8 with hm | hm | hm | hm
        all_goals
          go_wp2_with fail
          first
          | (with_reducible refine (wbits_all wh.heap.size va N L most n c.size _ HW1.out (by omega) (by omega) hn64).mono ?_
             rintro e w3 ⟨rfl, d3⟩
             obtain ⟨v2, N2, L2, g1, g2, g3, g4, g5⟩ := does_grew d3 ⟨n, rfl⟩ (by omega) (fun h => by have := bits_size L most n c.size; rw [if_pos h] at this; omega)
             have hL2 : L2 ≤ L + 64 + 8 * c.s.size := by
               rcases g5 with h | ⟨h, h'⟩
               · omega
               · have := bits_size L most n c.size; rw [if_pos h] at this; omega
             generalize wbE L most n c.size = E at *)
          | (with_reducible refine (walign_all wh.heap.size va N L most _ HW1.out (by omega) (by omega)).mono ?_
             rintro e w3 ⟨rfl, d3⟩
             obtain ⟨v2, N2, L2, g1, g2, g3, g4, g5⟩ := does_grew d3 ⟨0, by simp⟩ (by omega) (fun h => by have := pad_lt L; omega)
             have hL2 : L2 ≤ L + 64 + 8 * c.s.size := by
               have := pad_lt L
               rcases g5 with h | ⟨h, h'⟩ <;> omega)
          | (with_reducible refine (wbytes_all wh.heap.size va N L most c.s _ HW1.out (by omega) (by omega) (by omega)).mono ?_
             rintro e w3 ⟨rfl, d3⟩
             obtain ⟨v2, N2, L2, g1, g2, g3, g4, g5⟩ := does_grew d3 ⟨num c.s * 2 ^ pad L, by rw [Nat.mul_assoc, ← Nat.pow_add, Nat.add_comm (pad L)]⟩ (by omega) (fun h => by have := pad_lt L; omega)
             have hL2 : L2 ≤ L + 64 + 8 * c.s.size := by
               have := pad_lt L
               rcases g5 with h | ⟨h, h'⟩ <;> omega
             generalize wbytesE L most c.s = E at *)
        all_goals
          have hO3 := hO1.step g2 g3
          clear d3 g5 g2 g3
          go_wp2_with fail
          refine (wtext_any wh.heap.size v2 N2 L2 most _ g1 (by omega)).mono ?_
          rintro e w4 ⟨rfl, f4⟩
          have g4' := g1.to f4 (by simp)
          have hO4 := hO3.quiet f4
          go_wp2_with fail
          refine (wlen_fr wh.heap.size v2 N2 L2 most _ g4' (by omega)).mono ?_
          rintro e w5 ⟨rfl, f5⟩
          have g5' := g4'.to f5 (by simp)
          have hO5 := hO4.quiet f5
          first | (by_cases hE : E = 0) | skip
        all_goals
          first | (obtain ⟨rfl, rfl⟩ := g4.no hE; have hne : (E != 0) = true := by rw [bne_iff_ne]; exact hE) | (subst hE) | skip
        all_goals
          obtain ⟨x, hx⟩ := g4.same
          obtain ⟨q, hq⟩ : ∃ q, L / 8 = q := ⟨_, rfl⟩
          obtain ⟨r, hr⟩ : ∃ r, L % 8 = r := ⟨_, rfl⟩
          have hxt := wtext_take N x L _ _ q hx g4.le hq
          have t1 := g5'.szb
          have t2 := g5'.szm
          have t2n := g5'.szn
          have t3 := g4.dec
          have t4 := g4.szd
          obtain ⟨t5, t6⟩ := g4.q2 hq
          obtain ⟨t7, t8⟩ := g4.q2I hq
          have hwq : IntKind.i64.wrap (q : Int) = (q : Int) := IntWalk.i64_in _ ⟨by omega, by omega⟩
          have t2b := decide_eq_false (Nat.not_lt.2 t2n)
          have r1 := slice_to _ q t5
          have r2 := slice_to _ q t6
          have hq' : (L : Int) / 8 = (q : Int) := by omega
          have hr' : (L : Int) % 8 = (r : Int) := by omega
          have HQR := Lib.hid (And.intro hx (And.intro hq hr))
          clear hx hq hr
          go_wp2_with fail
          go_quiet (fail)
          clear t1 t2 t2n t2b t3 t4 t5 t6 t7 t8 r1 r2 hxt
          by_cases hr0 : r = 0
          · subst hr0
            go_wp2_with fail
            go_quiet (fail)
            go_wp2_with fail
            go_roundw
            case rel => exact ⟨k + 1, _, _, _, by omega, by go_num, rfl, rfl, by have := HN.out.1; have := HN.out.2.2; omega, g5'.to (Fr.drewN [] _ _) (by simp), hO5.quiet (Fr.drewN [] _ _)⟩
            case measure => simp [intOf]; omega
          · obtain ⟨hx, hq, hr⟩ := HQR.out
            obtain ⟨u1, u2⟩ := g4.qlt hq hr hr0
            have hlow := wtext_low N x L _ _ q r hx HLT.out g4.le hq hr hr0 u1 u2
            have hwr : IntKind.i64.wrap (r : Int) = (r : Int) := IntWalk.i64_in _ ⟨by omega, by omega⟩
            have hrne : ((L : Int) % 8 != 0) = true := by rw [bne_iff_ne]; omega
            rw [← hr'] at hlow
            generalize hW : w5.drewN _ = W6
            have hF6 : Fr [] w5 W6 := by rw [← hW]; exact Fr.drewN _ _ _
            have g6 := g5'.to hF6 (by simp)
            have hO6 := hO5.quiet hF6
            clear hr' hwr hW g5' hO5
            have x1r := fun (x : World) => run_index_text (P := Try.prog) x 9 _ .i64 q Try.underlying9 u1
            have x2r := fun (x : World) => run_index_text (P := Try.prog) x 9 _ .i64 q Try.underlying9 u2
            clear hx hq hr
            go_wp2_with fail
            go_quiet ((go_at_call 26; exact Calls.quiet_of_same (mask_any _ _)))
            go_wp2_with fail
            go_roundw
            case rel => exact ⟨k + 1, _, _, _, by omega, by go_num, rfl, rfl, by have := HN.out.1; have := HN.out.2.2; omega, g6.to (Fr.drewN [] _ _) (by simp), hO6.quiet (Fr.drewN [] _ _)⟩
            case measure => simp [intOf]; omega
      · have hlt' : ¬ (k : Int) < (x1.length : Int) := by omega
        go_wp2_with fail
        refine (alive02 _).mono ?_
        rintro e w9 ⟨rfl, hb⟩
        go_wp2_with fail
        go_ret
        exact ⟨rfl, (Fr.of_below (l := []) hb).out ((Fr.of_below (l := []) hO.below).out fh.below (by simp)) (by simp)⟩
end Go.Proofs.Ytlognooioemenaa
