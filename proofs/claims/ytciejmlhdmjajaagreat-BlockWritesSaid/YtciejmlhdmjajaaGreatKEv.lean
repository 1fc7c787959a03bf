/- Package block: Size, of a block by codes of its own. -/
import Derived.Test.YtciejmlhdmjajaaGreatKEu
namespace Go.Proofs.YtciejmlhdmjajaaGreat
open Go.RowKit
set_option linter.unusedVariables false
set_option linter.unusedSimpArgs false

theorem bestLit_len (l : List Tok) : (bestLit l).length = 286 := by unfold bestLit; simp
theorem bestDist_len (l : List Tok) : (bestDist l).length = 30 := by unfold bestDist; simp
theorem headN_le (lit dist : List Nat) (hl : lit.length ≤ 288) (hd : dist.length ≤ 30) : headN lit dist ≤ 10000 := by
  unfold headN
  have h1 := kl_le lit dist
  have h2 := takesR_le (ownF lit dist) (own_le lit dist) (rsL lit dist)
  have h3 := rsL_len lit dist hl hd
  omega
set_option maxRecDepth 100000 in
set_option maxHeartbeats 3200000 in
theorem size_dyn (a : Option Addr) (c : Nat) (l : List Tok) (raw : ByteArray) (at_ : Nat) (w : World) (hat : at_ ≤ 1000000000) (hraw : raw.size ≤ 1048576) (hs : SlOf Tok.enc Tok.sz w a l) (hl : l.length ≤ 1000000) (hok : ∀ t ∈ l, t.ok) (hmay : ∀ t ∈ l, t.may = true) :
    Calls Tryz.prog 8 #[.int .u8 2, .slice a l.length c, .string raw, .int .i64 (at_ : Int)] w fun e w' => e = .returned (.tuple #[.int .i64 ((3 + headN (bestLit l) (bestDist l) + takesL (bestLit l) (bestDist l) (symsL l) : Nat) : Int), .int .i64 0]) ∧ Fr [] w w' := by
  have h1 : (at_ : Int) ≤ 1000000000 := by omega
  have h2 : (raw.size : Int) ≤ 1048576 := by omega
  have HA := Lib.hid (may_all a c l w hs (by omega) hok)
  rw [show l.all Tok.may = true from List.all_eq_true.2 hmay] at HA
  have HB := Lib.hid (And.intro hs (And.intro hl (And.intro hok hmay)))
  have hT := takesL_le (bestLit l) (bestDist l) (fun x hx => by have := bestLit_le l x hx; omega) (fun x hx => by have := bestDist_le l x hx; omega) (symsL l) (symsL_ok hmay fun t ht => (hok t ht).1)
  have hT2 := symsL_len l
  obtain ⟨T, hTe⟩ : ∃ T, takesL (bestLit l) (bestDist l) (symsL l) = T := ⟨_, rfl⟩
  have hTi : (T : Int) ≤ 1000000000 := by omega
  have HT := Lib.hid hTe
  obtain ⟨H, hHe⟩ : ∃ H, headN (bestLit l) (bestDist l) = H := ⟨_, rfl⟩
  have hHi : (H : Int) ≤ 10000 := by have := headN_le (bestLit l) (bestDist l) (by rw [bestLit_len]; omega) (by rw [bestDist_len]; omega); omega
  have HH := Lib.hid hHe
  rw [hTe, hHe]
  clear hT hT2 hTe hs hl hok hmay hat hraw hHe
  go_enter Tryz.func8, Tryz.ntmps8
  go_wp2_with fail
  refine HA.out.mono ?_
  rintro e w1 ⟨rfl, f1⟩
  have F1 := Lib.hid f1
  clear f1
  go_wp2_with fail
  refine (best_ok a c l w1 (HB.out.1.fr0 F1.out) HB.out.2.1 HB.out.2.2.1 HB.out.2.2.2).mono ?_
  rintro e w2 ⟨g1, g2, rfl, hg1, hg2, hn1, hn2, f2⟩
  have F2 := Lib.hid (And.intro (F1.out.trans f2) (And.intro hn1 hn2))
  clear hg1 hg2 hn1 hn2 f2
  go_wp2_with fail
  obtain ⟨V, hV⟩ : ∃ V, w2.alloc (.cells #[.slice (some ⟨g1, 0, none⟩) 286 286, .slice (some ⟨g2, 0, none⟩) 30 30] 45) = V := ⟨_, rfl⟩
  have fV : Fr [] w2 V := by rw [← hV]; exact Fr.alloc _ _ _
  have xV : V.heap[w2.heap.size]? = some (.cells #[.slice (some ⟨g1, 0, none⟩) 286 286, .slice (some ⟨g2, 0, none⟩) 30 30] 45 (0, 0)) := by rw [← hV]; exact alloc_last _ _
  rw [hV]
  have SK := Lib.hid (fun W (f : Fr [] V W) => (show W.cell? ⟨w2.heap.size, 0, none⟩ = some (.slice (some ⟨g1, 0, none⟩) 286 286) ∧ W.cell? ⟨w2.heap.size, 1, none⟩ = some (.slice (some ⟨g2, 0, none⟩) 30 30) from ⟨cell_of (f.blk xV (by simp)) 0, cell_of (f.blk xV (by simp)) 1⟩))
  have CH : Hid (∀ W, Fr [] V W → Calls Tryz.prog 23 #[.agg #[.slice (some ⟨g1, 0, none⟩) 286 286, .slice (some ⟨g2, 0, none⟩) 30 30]] W fun e w' => ∃ ao co ag ar cr v0 v1 kl n, e = .returned (.agg #[.int .i64 ((v0 : Nat) : Int), .int .i64 ((v1 : Nat) : Int), .int .i64 ((kl : Nat) : Int), .slice ao 19 co, .slice (some ⟨ag, 0, none⟩) 19 19, .slice ar n cr]) ∧ Fr [] W w' ∧ ∀ W2, Fr [] w' W2 → Calls Tryz.prog 24 #[.agg #[.int .i64 (v0 : Int), .int .i64 (v1 : Int), .int .i64 (kl : Int), .slice ao 19 co, .slice (some ⟨ag, 0, none⟩) 19 19, .slice ar n cr]] W2 fun e w' => e = .returned (.int .i64 (H : Int)) ∧ Fr [] W2 w') := Lib.hid (fun W f => by
    have f9 := fV.trans f
    have h := heads_ok (some ⟨g1, 0, none⟩) (some ⟨g2, 0, none⟩) 286 30 (bestLit l) (bestDist l) W ((sl_nrow F2.out.2.1).fr0 f9) ((sl_nrow F2.out.2.2).fr0 f9) (bestLit_le l) (bestDist_le l) (bestLit_len l) (bestDist_len l) (by omega) (by omega)
    rw [bestLit_len, bestDist_len] at h
    refine h.mono ?_
    rintro e w' ⟨ao, co, ag, ar, cr, rfl, hm, hf, _⟩
    refine ⟨ao, co, ag, ar, cr, _, _, _, _, rfl, hf, fun W2 k => ?_⟩
    have h9 := hsize_ok W.heap.size (bestLit l) (bestDist l) ao ar ag co cr (uptoL (bestLit l) 257) (uptoL (bestDist l) 1) W2 (hm.to k (by simp)) (bestLit_le l) (bestDist_le l) (by rw [bestLit_len]; omega) (by rw [bestDist_len]; omega)
    rw [HH.out] at h9
    exact h9)
  have CW : Hid (∀ W, Fr [] V W → Calls Tryz.prog 21 #[.slice a l.length c, .agg #[.slice (some ⟨g1, 0, none⟩) 286 286, .slice (some ⟨g2, 0, none⟩) 30 30]] W fun e w' => e = .returned (.int .i64 (T : Int)) ∧ Fr [] W w') := Lib.hid (fun W f => by
    have f9 := fV.trans f
    have h := weigh_ok a c l (some ⟨g1, 0, none⟩) (some ⟨g2, 0, none⟩) 286 30 (bestLit l) (bestDist l) W (HB.out.1.fr0 (F2.out.1.trans f9)) HB.out.2.1 HB.out.2.2.1 HB.out.2.2.2 ((sl_nrow F2.out.2.1).fr0 f9) ((sl_nrow F2.out.2.2).fr0 f9) (fun x hx => by have := bestLit_le l x hx; omega) (fun x hx => by have := bestDist_le l x hx; omega) (.inl (bestLit_len l)) (bestDist_len l)
    rw [bestLit_len, bestDist_len, HT.out] at h
    exact h)
  have FV := Lib.hid (F2.out.1.trans fV)
  have c0 := (SK.out V (Fr.refl _ _)).1
  have c1 := (SK.out V (Fr.refl _ _)).2
  clear hV fV xV
  go_region_held3 (fun W => W.cell? ⟨w2.heap.size, 0, none⟩ = some (.slice (some ⟨g1, 0, none⟩) 286 286) ∧ W.cell? ⟨w2.heap.size, 1, none⟩ = some (.slice (some ⟨g2, 0, none⟩) 30 30))
    (first | exact SK.out _ G2.out | exact SK.out _ G3.out | exact SK.out _ G1.out | exact SK.out _ (Fr.drew (Fr.refl _ _)) | exact SK.out _ (Fr.refl _ _))
    (first
      | (go_at_call 23; (with_reducible refine (CH.out _ (by first | exact G3.out | exact Fr.drew (Fr.refl _ _) | exact Fr.refl _ _)).mono ?_); rintro e w5 ⟨ao, co, ag, ar, cr, v0, v1, kl, n, rfl, f5, cs⟩; have G1 := Lib.hid ((show Fr [] V _ from by first | exact G3.out | exact Fr.drew (Fr.refl _ _) | exact Fr.refl _ _).trans f5); have CS := Lib.hid cs; clear f5 cs)
      | (go_at_call 21; (with_reducible refine (CW.out _ (by first | exact G2.out | exact G1.out | exact Fr.drew (Fr.refl _ _) | exact Fr.refl _ _)).mono ?_); rintro e w6 ⟨rfl, f6⟩; have G3 := Lib.hid ((show Fr [] V _ from by first | exact G2.out | exact G1.out | exact Fr.drew (Fr.refl _ _) | exact Fr.refl _ _).trans f6); have E3 := Lib.hid f6; clear f6)
      | (go_at_call 24; (with_reducible refine (CS.out _ (by first | exact Fr.refl _ _ | exact E3.out)).mono ?_); rintro e w7 ⟨rfl, f7⟩; have G2 := Lib.hid ((show Fr [] V _ from by first | exact G3.out | exact G1.out).trans f7); clear f7))
  all_goals go_wp2_with fail
  all_goals (
    have ew : IntKind.i64.wrap (IntKind.i64.wrap (3 + (H : Int)) + (T : Int)) = ((3 + H + T : Nat) : Int) := by rw [IntWalk.i64_in (3 + (H : Int)) ⟨by omega, by omega⟩, IntWalk.i64_in _ ⟨by omega, by omega⟩]; omega
    have EW := Lib.hid ew
    clear ew
    go_ret2
    exact ⟨by rw [← EW.out]; rfl, by first | exact FV.out.trans G2.out | exact FV.out.trans G3.out⟩)
end Go.Proofs.YtciejmlhdmjajaaGreat

