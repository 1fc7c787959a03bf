/- Package block: Size, of a block by codes of its own. The document's examples of layer 13. BlockWhere's walk. -/
import Derived.Test.YtciejmlhdmjajaaKEu
import Derived.Test.YtciejmlhdmjajaaKEw
namespace Go.Proofs.Ytciejmlhdmjajaa
open Go.RowKit
set_option linter.unusedVariables false
set_option linter.unusedSimpArgs false

theorem bestLit_len (l : List Tok) : (bestLit l).length = 286 := by unfold bestLit; simp
theorem bestDist_len (l : List Tok) : (bestDist l).length = 30 := by unfold bestDist; simp
theorem headN_le (lit dist : List Nat) (hl : lit.length ≤ 288) (hd : dist.length ≤ 30) : headN lit dist ≤ 10000 := by
  unfold headN
  have h1 := kl_le lit dist
  have h2 := takesR_le (ownF lit dist) (own_le lit dist) (rsL lit dist)
  have h3 := rsL_len lit dist hl hd
  omega
set_option maxRecDepth 100000 in
set_option maxHeartbeats 3200000 in
theorem size_dyn (a : Option Addr) (c : Nat) (l : List Tok) (raw : ByteArray) (at_ : Nat) (w : World) (hat : at_ ≤ 1000000000) (hraw : raw.size ≤ 1048576) (hs : SlOf Tok.enc Tok.sz w a l) (hl : l.length ≤ 1000000) (hok : ∀ t ∈ l, t.ok) (hmay : ∀ t ∈ l, t.may = true) :
    Calls Try.prog 18 #[.int .u8 2, .slice a l.length c, .string raw, .int .i64 (at_ : Int)] w fun e w' => e = .returned (.tuple #[.int .i64 ((3 + headN (bestLit l) (bestDist l) + takesL (bestLit l) (bestDist l) (symsL l) : Nat) : Int), .int .i64 0]) ∧ Fr [] w w' := by
  have h1 : (at_ : Int) ≤ 1000000000 := by omega
  have h2 : (raw.size : Int) ≤ 1048576 := by omega
  have HA := Lib.hid (may_all a c l w hs (by omega) hok)
  rw [show l.all Tok.may = true from List.all_eq_true.2 hmay] at HA
  have HB := Lib.hid (And.intro hs (And.intro hl (And.intro hok hmay)))
  have hT := takesL_le (bestLit l) (bestDist l) (fun x hx => by have := bestLit_le l x hx; omega) (fun x hx => by have := bestDist_le l x hx; omega) (symsL l) (symsL_ok hmay fun t ht => (hok t ht).1)
  have hT2 := symsL_len l
  obtain ⟨T, hTe⟩ : ∃ T, takesL (bestLit l) (bestDist l) (symsL l) = T := ⟨_, rfl⟩
  have hTi : (T : Int) ≤ 1000000000 := by omega
  have HT := Lib.hid hTe
  obtain ⟨H, hHe⟩ : ∃ H, headN (bestLit l) (bestDist l) = H := ⟨_, rfl⟩
  have hHi : (H : Int) ≤ 10000 := by have := headN_le (bestLit l) (bestDist l) (by rw [bestLit_len]; omega) (by rw [bestDist_len]; omega); omega
  have HH := Lib.hid hHe
  rw [hTe, hHe]
  clear hT hT2 hTe hs hl hok hmay hat hraw hHe
  go_enter Try.func18, Try.ntmps18
  go_wp2_with fail
  refine HA.out.mono ?_
  rintro e w1 ⟨rfl, f1⟩
  have F1 := Lib.hid f1
  clear f1
  go_wp2_with fail
  refine (best_ok a c l w1 (HB.out.1.fr0 F1.out) HB.out.2.1 HB.out.2.2.1 HB.out.2.2.2).mono ?_
  rintro e w2 ⟨g1, g2, rfl, hg1, hg2, hn1, hn2, f2⟩
  have F2 := Lib.hid (And.intro (F1.out.trans f2) (And.intro hn1 hn2))
  clear hg1 hg2 hn1 hn2 f2
  go_wp2_with fail
  obtain ⟨V, hV⟩ : ∃ V, w2.alloc (.cells #[.slice (some ⟨g1, 0, none⟩) 286 286, .slice (some ⟨g2, 0, none⟩) 30 30] 27) = V := ⟨_, rfl⟩
  have fV : Fr [] w2 V := by rw [← hV]; exact Fr.alloc _ _ _
  have xV : V.heap[w2.heap.size]? = some (.cells #[.slice (some ⟨g1, 0, none⟩) 286 286, .slice (some ⟨g2, 0, none⟩) 30 30] 27 (0, 0)) := by rw [← hV]; exact alloc_last _ _
  rw [hV]
  have SK := Lib.hid (fun W (f : Fr [] V W) => (show W.cell? ⟨w2.heap.size, 0, none⟩ = some (.slice (some ⟨g1, 0, none⟩) 286 286) ∧ W.cell? ⟨w2.heap.size, 1, none⟩ = some (.slice (some ⟨g2, 0, none⟩) 30 30) from ⟨cell_of (f.blk xV (by simp)) 0, cell_of (f.blk xV (by simp)) 1⟩))
  have CH : Hid (∀ W, Fr [] V W → Calls Try.prog 33 #[.agg #[.slice (some ⟨g1, 0, none⟩) 286 286, .slice (some ⟨g2, 0, none⟩) 30 30]] W fun e w' => ∃ ao co ag ar cr v0 v1 kl n, e = .returned (.agg #[.int .i64 ((v0 : Nat) : Int), .int .i64 ((v1 : Nat) : Int), .int .i64 ((kl : Nat) : Int), .slice ao 19 co, .slice (some ⟨ag, 0, none⟩) 19 19, .slice ar n cr]) ∧ Fr [] W w' ∧ ∀ W2, Fr [] w' W2 → Calls Try.prog 34 #[.agg #[.int .i64 (v0 : Int), .int .i64 (v1 : Int), .int .i64 (kl : Int), .slice ao 19 co, .slice (some ⟨ag, 0, none⟩) 19 19, .slice ar n cr]] W2 fun e w' => e = .returned (.int .i64 (H : Int)) ∧ Fr [] W2 w') := Lib.hid (fun W f => by
    have f9 := fV.trans f
    have h := heads_ok (some ⟨g1, 0, none⟩) (some ⟨g2, 0, none⟩) 286 30 (bestLit l) (bestDist l) W ((sl_nrow F2.out.2.1).fr0 f9) ((sl_nrow F2.out.2.2).fr0 f9) (bestLit_le l) (bestDist_le l) (bestLit_len l) (bestDist_len l) (by omega) (by omega)
    rw [bestLit_len, bestDist_len] at h
    refine h.mono ?_
    rintro e w' ⟨ao, co, ag, ar, cr, rfl, hm, hf, _⟩
    refine ⟨ao, co, ag, ar, cr, _, _, _, _, rfl, hf, fun W2 k => ?_⟩
    have h9 := hsize_ok W.heap.size (bestLit l) (bestDist l) ao ar ag co cr (uptoL (bestLit l) 257) (uptoL (bestDist l) 1) W2 (hm.to k (by simp)) (bestLit_le l) (bestDist_le l) (by rw [bestLit_len]; omega) (by rw [bestDist_len]; omega)
    rw [HH.out] at h9
    exact h9)
  have CW : Hid (∀ W, Fr [] V W → Calls Try.prog 32 #[.slice a l.length c, .agg #[.slice (some ⟨g1, 0, none⟩) 286 286, .slice (some ⟨g2, 0, none⟩) 30 30]] W fun e w' => e = .returned (.int .i64 (T : Int)) ∧ Fr [] W w') := Lib.hid (fun W f => by
    have f9 := fV.trans f
    have h := weigh_ok a c l (some ⟨g1, 0, none⟩) (some ⟨g2, 0, none⟩) 286 30 (bestLit l) (bestDist l) W (HB.out.1.fr0 (F2.out.1.trans f9)) HB.out.2.1 HB.out.2.2.1 HB.out.2.2.2 ((sl_nrow F2.out.2.1).fr0 f9) ((sl_nrow F2.out.2.2).fr0 f9) (fun x hx => by have := bestLit_le l x hx; omega) (fun x hx => by have := bestDist_le l x hx; omega) (.inl (bestLit_len l)) (bestDist_len l)
    rw [bestLit_len, bestDist_len, HT.out] at h
    exact h)
  have FV := Lib.hid (F2.out.1.trans fV)
  have c0 := (SK.out V (Fr.refl _ _)).1
  have c1 := (SK.out V (Fr.refl _ _)).2
  clear hV fV xV
  go_region_held3 (fun W => W.cell? ⟨w2.heap.size, 0, none⟩ = some (.slice (some ⟨g1, 0, none⟩) 286 286) ∧ W.cell? ⟨w2.heap.size, 1, none⟩ = some (.slice (some ⟨g2, 0, none⟩) 30 30))
    (first | exact SK.out _ G2.out | exact SK.out _ G3.out | exact SK.out _ G1.out | exact SK.out _ (Fr.drew (Fr.refl _ _)) | exact SK.out _ (Fr.refl _ _))
    (first
      | (go_at_call 33; (with_reducible refine (CH.out _ (by first | exact G3.out | exact Fr.drew (Fr.refl _ _) | exact Fr.refl _ _)).mono ?_); rintro e w5 ⟨ao, co, ag, ar, cr, v0, v1, kl, n, rfl, f5, cs⟩; have G1 := Lib.hid ((show Fr [] V _ from by first | exact G3.out | exact Fr.drew (Fr.refl _ _) | exact Fr.refl _ _).trans f5); have CS := Lib.hid cs; clear f5 cs)
      | (go_at_call 32; (with_reducible refine (CW.out _ (by first | exact G2.out | exact G1.out | exact Fr.drew (Fr.refl _ _) | exact Fr.refl _ _)).mono ?_); rintro e w6 ⟨rfl, f6⟩; have G3 := Lib.hid ((show Fr [] V _ from by first | exact G2.out | exact G1.out | exact Fr.drew (Fr.refl _ _) | exact Fr.refl _ _).trans f6); have E3 := Lib.hid f6; clear f6)
      | (go_at_call 34; (with_reducible refine (CS.out _ (by first | exact Fr.refl _ _ | exact E3.out)).mono ?_); rintro e w7 ⟨rfl, f7⟩; have G2 := Lib.hid ((show Fr [] V _ from by first | exact G3.out | exact G1.out).trans f7); clear f7))
  all_goals go_wp2_with fail
  all_goals (
    have ew : IntKind.i64.wrap (IntKind.i64.wrap (3 + (H : Int)) + (T : Int)) = ((3 + H + T : Nat) : Int) := by rw [IntWalk.i64_in (3 + (H : Int)) ⟨by omega, by omega⟩, IntWalk.i64_in _ ⟨by omega, by omega⟩]; omega
    have EW := Lib.hid ew
    clear ew
    go_ret2
    exact ⟨by rw [← EW.out]; rfl, by first | exact FV.out.trans G2.out | exact FV.out.trans G3.out⟩)
end Go.Proofs.Ytciejmlhdmjajaa
namespace Go.Proofs.Ytciejmlhdmjajaa
open Go.RowKit
set_option linter.unusedVariables false
set_option linter.unusedSimpArgs false

set_option maxRecDepth 100000 in
set_option maxHeartbeats 3200000 in
theorem works13 (w : World) : Calls Try.prog 9 #[] w fun e w' => e = .returned (.bool true) ∧ Fr [] w w' := by
  have hS1 : Hid (∀ W, Calls Try.prog 18 #[.int .u8 1, .slice none 0 0, .string ByteArray.empty, .int .i64 0] W fun e w' => e = .returned (.tuple #[.int .i64 10, .int .i64 0]) ∧ Fr [] W w') := Lib.hid fun W => by
    have h := size_fixed none 0 [] ByteArray.empty 0 W (by omega) (by decide) (fun h => absurd rfl h) (by decide) (by simp) (by simp)
    have e : takesL fixLit fixDist (symsL []) = 7 := by decide +kernel
    rw [e] at h
    exact h
  have hS2 : Hid (∀ W, Calls Try.prog 18 #[.int .u8 0, .slice none 0 0, .string ⟨#[97, 98, 99]⟩, .int .i64 0] W fun e w' => e = .returned (.tuple #[.int .i64 64, .int .i64 0]) ∧ Fr [] W w') := Lib.hid fun W => by
    have h := size_stored none 0 [] ⟨#[97, 98, 99]⟩ 0 W (by omega) (by decide)
    exact h
  go_enter Try.func9, Try.ntmps9
  go_wp2_with fail
  refine (hS1.out _).mono ?_
  rintro e w1 ⟨rfl, f1⟩
  have F1 := Lib.hid f1
  clear f1
  go_wp2_with fail
  refine (hS2.out _).mono ?_
  rintro e w2 ⟨rfl, f2⟩
  have F2 := Lib.hid (F1.out.trans f2)
  clear f2
  go_wp2_with fail
  refine (order_ok _).mono ?_
  rintro e w3 ⟨rfl, ho, f3⟩
  have F3 := Lib.hid (And.intro (F2.out.trans f3) ho)
  clear f3 ho
  go_wp2_with fail
  refine (fixed_ok _).mono ?_
  rintro e w4 ⟨g1, g2, rfl, hg1, hg2, hn1, hn2, f4⟩
  have ho := f4.blk F3.out.2 (by simp)
  have F4 := Lib.hid (F3.out.1.trans f4)
  have o0 := cell_of ho 0
  have c200 := hn1.cell 200 (by omega)
  have e200 : fixF 200 = 9 := by decide
  rw [e200] at c200
  have l0 := lt_of ho
  have l1 := lt_of hn1
  have e0 : orderC[0]? = some (.int .u8 16) := rfl
  rw [e0] at o0
  clear ho f4 hn1 hn2 hg1 hg2 e0 e200
  go_wp2_with fail
  go_ret
  exact ⟨rfl, F4.out.trans (Fr.alloc _ _ _)⟩
end Go.Proofs.Ytciejmlhdmjajaa
namespace Go.Proofs.Ytciejmlhdmjajaa
open Go.RowKit
set_option linter.unusedVariables false
set_option linter.unusedSimpArgs false

theorem stored_turn (a n : Nat) : storedN (a + 8) n = storedN a n ∧ (a + storedN a n) % 8 = 0 := by unfold storedN; omega
theorem stored_near (a b n : Nat) : storedN a n ≤ storedN b n + 7 := by unfold storedN; omega
theorem stored_le (a n : Nat) (h : n ≤ 1048576) : storedN a n ≤ 10000000 := by unfold storedN; omega
/-- Size at the three kinds, wherever. -/
theorem sizes_any (a : Option Addr) (c : Nat) (l : List Tok) (raw : ByteArray) (w : World) (hraw : raw.size ≤ 1048576) (hs : SlOf Tok.enc Tok.sz w a l) (hl : l.length ≤ 1000000) (hok : ∀ t ∈ l, t.ok) (hmay : ∀ t ∈ l, t.may = true) (k : Nat) (hk : k ≤ 2) (at_ : Nat) (hat : at_ ≤ 1000000000) :
    Calls Try.prog 18 #[.int .u8 (k : Int), .slice a l.length c, .string raw, .int .i64 (at_ : Int)] w fun e w' => e = .returned (.tuple #[.int .i64 ((sizeN k l raw.size at_ : Nat) : Int), .int .i64 0]) ∧ Fr [] w w' := by
  rcases (show k = 0 ∨ k = 1 ∨ k = 2 by omega) with rfl | rfl | rfl
  · exact size_stored a c l raw at_ w hat hraw
  · exact size_fixed a c l raw at_ w hat hraw hs hl hok hmay
  · exact size_dyn a c l raw at_ w hat hraw hs hl hok hmay
theorem sizeN_le (k : Nat) (l : List Tok) (n at_ : Nat) (hl : l.length ≤ 1000000) (hok : ∀ t ∈ l, t.ok) (hmay : ∀ t ∈ l, t.may = true) (hn : n ≤ 1048576) : sizeN k l n at_ ≤ 1000000000 := by
  unfold sizeN
  have hso := symsL_ok hmay fun t ht => (hok t ht).1
  have h0 := symsL_len l
  split
  · have := stored_le at_ n hn; omega
  · split
    · have := takesL_le fixLit fixDist (fun x hx => by have := fixLit_le x hx; omega) (fun x hx => by have := fixDist_le x hx; omega) (symsL l) hso; omega
    · have := takesL_le (bestLit l) (bestDist l) (fun x hx => by have := bestLit_le l x hx; omega) (fun x hx => by have := bestDist_le l x hx; omega) (symsL l) hso
      have := headN_le (bestLit l) (bestDist l) (by rw [bestLit_len]; omega) (by rw [bestDist_len]; omega)
      omega
set_option maxRecDepth 100000 in
set_option maxHeartbeats 6400000 in
theorem blockWhere_walk (w : World) (a0 : Option Addr) (c0 : Nat) (x0 : List RawT) (l0 : x0.length ≤ maxLen) (s0 : SlOf RawT.enc RawT.sz w a0 x0) (o0 : ∀ x, x ∈ x0 → x.ok) (a1 : ByteArray) (w1 : a1.size ≤ maxLen) (a2 : Int) (w2 : (Lit.int .u16 a2).wf = true) (a3 : Int) (w3 : (Lit.int .u16 a3).wf = true) :
    Calls Try.prog 5 #[.slice a0 x0.length c0, .string a1, .int .u16 a2, .int .u16 a3] w fun e w' => e = .returned (.bool true) ∧ Below w.heap.size w w' := by
  unfold maxLen at l0 w1
  have h2 : 0 ≤ a2 ∧ a2 ≤ 65535 := by simp [Lit.wf, IntKind.min, IntKind.max, IntKind.signed, IntKind.bits] at w2; omega
  have h3 : 0 ≤ a3 ∧ a3 ≤ 65535 := by simp [Lit.wf, IntKind.min, IntKind.max, IntKind.signed, IntKind.bits] at w3; omega
  obtain ⟨p, rfl⟩ : ∃ p : Nat, a2 = (p : Int) := ⟨a2.toNat, by omega⟩
  obtain ⟨q, rfl⟩ : ∃ q : Nat, a3 = (q : Int) := ⟨a3.toNat, by omega⟩
  have hp : (p : Int) ≤ 65535 := h2.2
  have hq : (q : Int) ≤ 65535 := h3.2
  have HW := Lib.hid works13
  have hl1 : (x0.length : Int) ≤ 9223372036854775807 := by omega
  have hl2 : (a1.size : Int) ≤ 9223372036854775807 := by omega
  clear w2 w3 h2 h3
  by_cases hbig : 300 < x0.length ∨ 4096 < a1.size
  · by_cases hb1 : 300 < x0.length
    · have hb1i : 300 < (x0.length : Int) := by omega
      clear hbig hb1 l0 w1 s0 o0
      go_enter Try.func5, Try.ntmps5
      go_wp2_with fail
      refine (HW.out _).mono ?_
      rintro e w4 ⟨rfl, f4⟩
      have F4 := Lib.hid f4
      clear f4
      go_wp2_with fail
      go_ret
      exact ⟨rfl, F4.out.below⟩
    · have hb1i : (x0.length : Int) ≤ 300 := by omega
      have hb2i : 4096 < (a1.size : Int) := by omega
      clear hbig hb1 l0 w1 s0 o0
      go_enter Try.func5, Try.ntmps5
      go_wp2_with fail
      refine (HW.out _).mono ?_
      rintro e w4 ⟨rfl, f4⟩
      have F4 := Lib.hid f4
      clear f4
      go_wp2_with fail
      go_ret
      exact ⟨rfl, F4.out.below⟩
  · have hb1i : (x0.length : Int) ≤ 300 := by omega
    have hb2i : (a1.size : Int) ≤ 4096 := by omega
    have HM := Lib.hid (made_ok a0 c0 x0 w s0 (by omega) o0)
    have HL := Lib.hid (And.intro (madeL_ok x0 0 o0) (And.intro (madeL_len x0 0) (show x0.length ≤ 300 ∧ a1.size ≤ 4096 by omega)))
    clear hbig l0 w1 s0 o0
    go_enter Try.func5, Try.ntmps5
    go_wp2_with fail
    refine HM.out.mono ?_
    rintro e w4 ⟨ao, co, rfl, hsl, f4⟩
    obtain ⟨l, hl⟩ : ∃ l, madeL 0 x0 = l := ⟨_, rfl⟩
    rw [hl] at HL hsl ⊢
    have HS := Lib.hid (And.intro hsl f4)
    clear hsl f4 hl HM
    have hk8 : ((p + 8 : Nat) : Int) = (p : Int) + 8 := by omega
    have CS : Hid (∀ W, Fr [] w4 W → ∀ k : Nat, k ≤ 2 → ∀ t : Nat, t ≤ 70000 → Calls Try.prog 18 #[.int .u8 (k : Int), .slice ao l.length co, .string a1, .int .i64 (t : Int)] W fun e w' => e = .returned (.tuple #[.int .i64 ((sizeN k l a1.size t : Nat) : Int), .int .i64 0]) ∧ Fr [] W w') := Lib.hid fun W f k hk t ht =>
      sizes_any ao co l a1 W (by have := HL.out; omega) (HS.out.1.fr0 f) (by have := HL.out; omega) (fun t ht => (HL.out.1 t ht).1) (fun t ht => (HL.out.1 t ht).2) k hk t (by omega)
    have SL := Lib.hid (fun k t => sizeN_le k l a1.size t (by have := HL.out; omega) (fun t ht => (HL.out.1 t ht).1) (fun t ht => (HL.out.1 t ht).2) (by have := HL.out; omega))
    clear hk8
    go_wp2_with fail
    go_loopw [10] (fun v10 wr => ∃ k : Nat, k ≤ 3 ∧ v10 = .int .u8 (k : Int) ∧ Fr [] w4 wr) (fun v10 _ => 3 - (intOf v10).toNat)
    case atStart => exact ⟨0, by omega, rfl, Fr.refl _ _⟩
    case round =>
      obtain ⟨k, hk, rfl, hf⟩ := hrel
      by_cases hlt : k < 3
      · have hki : (k : Int) < 3 := by omega
        have hX := SL.out k p
        have hY := SL.out k q
        have EZ := Lib.hid (show sizeN k l a1.size (p + 8) = sizeN k l a1.size p by
          unfold sizeN
          split
          · exact (stored_turn p a1.size).1
          · rfl)
        have EXY : (k = 0 ∧ (p + sizeN k l a1.size p) % 8 = 0 ∧ sizeN k l a1.size p ≤ sizeN k l a1.size q + 7 ∧ sizeN k l a1.size q ≤ sizeN k l a1.size p + 7) ∨ (k ≠ 0 ∧ sizeN k l a1.size p = sizeN k l a1.size q) := by
          by_cases h0 : k = 0
          · left
            subst h0
            exact ⟨rfl, (stored_turn p a1.size).2, stored_near p q a1.size, stored_near q p a1.size⟩
          · right
            refine ⟨h0, ?_⟩
            unfold sizeN
            rw [if_neg h0, if_neg h0]
        have C1 := Lib.hid (fun W f => CS.out W f k (by omega) p (by omega))
        have C2 := Lib.hid (fun W f => CS.out W f k (by omega) q (by omega))
        have C3 := Lib.hid (fun W f => CS.out W f k (by omega) (p + 8) (by omega))
        rw [EZ.out, show ((p + 8 : Nat) : Int) = (p : Int) + 8 by omega] at C3
        generalize sizeN k l a1.size p = x at *
        generalize sizeN k l a1.size q = y at *
        have hxi : (x : Int) ≤ 1000000000 := by omega
        have hyi : (y : Int) ≤ 1000000000 := by omega
        have HF := Lib.hid hf
        clear EZ hX hY hf
        rcases EXY with ⟨rfl, e1, e2, e3⟩ | ⟨h0, rfl⟩
        · have i1 : ((p : Int) + (x : Int)) % 8 = 0 := by omega
          have i2 : (x : Int) - (y : Int) ≤ 7 := by omega
          have i3 : (y : Int) - (x : Int) ≤ 7 := by omega
          clear e1 e2 e3 hlt hki
          go_wp2_with fail
          refine (C1.out _ HF.out).mono ?_
          rintro e w5 ⟨rfl, f5⟩
          have F5 := Lib.hid (HF.out.trans f5)
          clear f5
          go_wp2_with fail
          refine (C2.out _ F5.out).mono ?_
          rintro e w6 ⟨rfl, f6⟩
          have F6 := Lib.hid (F5.out.trans f6)
          clear f6
          go_wp2_with fail
          refine (C3.out _ F6.out).mono ?_
          rintro e w7 ⟨rfl, f7⟩
          have F7 := Lib.hid (F6.out.trans f7)
          clear f7
          go_wp2_with fail
          go_roundw
          case rel => exact ⟨1, by omega, by go_num, F7.out⟩
          case measure => simp [intOf]
        · have i4 : ((k : Int) != 0) = true := by rw [bne_iff_ne]; omega
          have i5 : ((k : Int) == 0) = false := by rw [beq_eq_false_iff_ne]; omega
          clear h0 hlt
          go_wp2_with fail
          refine (C1.out _ HF.out).mono ?_
          rintro e w5 ⟨rfl, f5⟩
          have F5 := Lib.hid (HF.out.trans f5)
          clear f5
          go_wp2_with fail
          refine (C2.out _ F5.out).mono ?_
          rintro e w6 ⟨rfl, f6⟩
          have F6 := Lib.hid (F5.out.trans f6)
          clear f6
          go_wp2_with fail
          refine (C3.out _ F6.out).mono ?_
          rintro e w7 ⟨rfl, f7⟩
          have F7 := Lib.hid (F6.out.trans f7)
          clear f7
          go_wp2_with fail
          go_roundw
          case rel => exact ⟨k + 1, by omega, by go_num, F7.out⟩
          case measure => simp [intOf]; omega
      · have hke : k = 3 := by omega
        subst hke
        have HF := Lib.hid (HS.out.2.trans hf)
        clear hf
        go_wp2_with fail
        refine (HW.out _).mono ?_
        rintro e w5 ⟨rfl, f5⟩
        have F5 := Lib.hid (HF.out.trans f5)
        clear f5
        go_wp2_with fail
        go_ret
        exact ⟨rfl, F5.out.below⟩
end Go.Proofs.Ytciejmlhdmjajaa

