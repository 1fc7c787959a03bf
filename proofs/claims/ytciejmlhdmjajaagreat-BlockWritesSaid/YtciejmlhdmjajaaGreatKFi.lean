/- block.out: stored blocks. -/
import Derived.Test.YtciejmlhdmjajaaGreatKFh
import Derived.Deep.CutRange
namespace Go.Proofs.YtciejmlhdmjajaaGreat
open Go.RowKit
set_option linter.unusedVariables false
set_option linter.unusedSimpArgs false

def padP (D : Nat × Nat) : Nat × Nat := putP D (0, pad D.2)
/-- One stored block. -/
def oneD (D : Nat × Nat) (s : ByteArray) (last : Bool) : Nat × Nat := putP (putP (putP (padP (putP D (last.toNat, 3))) (s.size, 16)) (65535 - s.size, 16)) (num s, 8 * s.size)
def storedF : Nat → Bool → Nat × Nat → ByteArray → Nat × Nat
  | 0, _, D, _ => D
  | f + 1, last, D, r =>
    if r.size ≤ 65535 then oneD D r last
    else storedF f last (oneD D (r.extract 0 65535) false) (r.extract 65535 r.size)
theorem OutI.get {ob b most : Nat} {D : Nat × Nat} {M : List Nat} {W : World} (h : OutI ob b most D M W) : ∃ v N L, ∃ e : Int, M = ob :: wfp b v ∧ Wr W b v N L most ∧ ob ∉ wfp b v ∧ W.heap[ob]? = some (outO b e) ∧ (roomy D most = true ∧ e = 0 ∧ N = D.1 ∧ L = D.2 ∨ roomy D most = false ∧ e = 4) := by
  obtain ⟨v, N, L, h1, h2, h3, h4⟩ := h
  rcases h4 with ⟨h5, h6, h7⟩ | ⟨h5, h6⟩
  · exact ⟨v, N, L, 0, h1, h2, h3, h6, .inl ⟨h5, rfl, h7⟩⟩
  · exact ⟨v, N, L, 4, h1, h2, h3, h6, .inr ⟨h5, rfl⟩⟩
theorem OutI.over {ob b most : Nat} {D D' : Nat × Nat} {M : List Nat} {W : World} (h : OutI ob b most D M W) (hf : roomy D most = false) (hD : D.2 ≤ D'.2) : OutI ob b most D' M W := by
  obtain ⟨v, N, L, h1, h2, h3, h4⟩ := h
  refine ⟨v, N, L, h1, h2, h3, .inr ⟨?_, ?_⟩⟩
  · unfold roomy at *
    simp only [decide_eq_false_iff_not] at hf ⊢
    omega
  · rcases h4 with ⟨h5, _⟩ | ⟨_, h6⟩
    · rw [hf] at h5; cases h5
    · exact h6
theorem not16 (n : Nat) (h : n ≤ 65535) : IntKind.u64.wrap (bits .xor .u16 IntKind.u16.max (n : Int)) = ((65535 - n : Nat) : Int) := by
  have e : bits .xor .u16 IntKind.u16.max (n : Int) = ((65535 - n : Nat) : Int) := by
    show IntKind.u16.wrap ((BitVec.ofInt 16 65535 ^^^ BitVec.ofInt 16 (n : Int)).toNat : Int) = _
    rw [show BitVec.ofInt 16 65535 = BitVec.allOnes 16 by decide, BitVec.allOnes_xor, BitVec.toNat_not, BitVec.toNat_ofInt]
    rw [show ((n : Int) % (2 ^ 16 : Nat)).toNat = n by omega]
    rw [IntKind.wrap_u16]
    omega
  rw [e, IntKind.wrap_u64]
  omega
theorem bytes_out (b : Nat) (v : Value) (D : Nat × Nat) (most : Nat) (s : ByteArray) (w5 : World) (hw : Wr w5 b v D.1 D.2 most) (h8 : D.2 % 8 = 0) (hs : s.size ≤ 65535) (hm : most ≤ 1000000) :
    ∃ E : Int, ∀ W, Fr [] w5 W → Calls Tryz.prog 44 #[.pointer (some ⟨b, 0, none⟩), .string s] W fun e w' => e = .returned (.int .i64 E) ∧ ∃ v' N' L', Wr w' b v' N' L' most ∧ NewRow w5 v v' ∧ Fr (wfp b v) w5 w' ∧ (roomy (putP D (num s, 8 * s.size)) most = true ∧ E = 0 ∧ N' = (putP D (num s, 8 * s.size)).1 ∧ L' = (putP D (num s, 8 * s.size)).2 ∨ roomy (putP D (num s, 8 * s.size)) most = false ∧ E = 4) := by
  have hrm := hw.rm
  have hp : pad D.2 = 0 := by unfold pad; omega
  refine ⟨wbytesE D.2 most s, fun W f => (wbytes_any b v D.1 D.2 most s W (hw.to f (by simp)) (by omega) (by omega) (by omega)).mono ?_⟩
  rintro e w' ⟨rfl, v', hif, hnew, hf⟩
  rw [hp, Nat.add_zero] at hif
  have hn : NewRow w5 v v' := hnew.imp id fun ⟨g, h1, h2⟩ => ⟨g, h1, Nat.le_trans f.size h2⟩
  have hF : Fr (wfp b v) w5 w' := f.nil.trans hf
  by_cases h : (D.2 + 7) / 8 + s.size ≤ most
  · have hE : wbytesE D.2 most s = 0 := by unfold wbytesE; rw [if_pos h]
    rw [if_pos hE] at hif
    exact ⟨rfl, v', _, _, hif, hn, hF, .inl ⟨by unfold roomy putP; simp only [decide_eq_true_iff]; omega, hE, rfl, rfl⟩⟩
  · have hE : wbytesE D.2 most s = 4 := by unfold wbytesE; rw [if_neg h]
    rw [if_neg (by rw [hE]; decide)] at hif
    exact ⟨rfl, v', _, _, hif, hn, hF, .inr ⟨by unfold roomy putP; simp only [decide_eq_false_iff_not]; omega, hE⟩⟩
theorem keep_set1 {w : World} {ob : Nat} {v x : Value} (h : w.cell? ⟨ob, 0, none⟩ = some x) : (w.setCell ⟨ob, 1, none⟩ v).cell? ⟨ob, 0, none⟩ = some x := by
  unfold World.cell? at h ⊢
  simp only [World.setCell] at h ⊢
  rw [Array.getElem?_modify]
  simp only [if_true]
  cases hb : w.heap[ob]? with
  | none => rw [hb] at h; simp at h
  | some o =>
    rw [hb] at h
    cases o <;> simp_all
theorem extract_whole (r : ByteArray) : r.extract 0 r.size = r := by
  apply ByteArray.ext
  simp [ByteArray.data_extract]
def stMes (r : Value) (first : Value) : Nat := (match r with | .string s => 2 * s.size | _ => 0) + (match first with | .bool true => 1 | _ => 0)
set_option maxRecDepth 100000 in
set_option maxHeartbeats 3200000 in
theorem ostored_ok (ob b most : Nat) (raw : ByteArray) (last : Bool) (D : Nat × Nat) (M : List Nat) (W : World) (h : OutI ob b most D M W) (hm : most ≤ 1000000) (hr : raw.size ≤ 1048576) :
    Calls Tryz.prog 25 #[.pointer (some ⟨ob, 0, none⟩), .string raw, .bool last] W fun e w' => e = .returned (.tuple #[]) ∧ OutTo ob b most (storedF 17 last D raw) M W w' := by
  have HI := Lib.hid h
  obtain ⟨T, hT⟩ : ∃ T, storedF 17 last D raw = T := ⟨_, rfl⟩
  rw [hT]
  have HT := Lib.hid (And.intro hT hr)
  clear h hT hr
  go_enter Tryz.func25, Tryz.ntmps25
  go_wp2_with fail
  go_loopw [1, 6] (fun v1 v6 wr => ∃ (r : ByteArray) (g : Bool) (D' : Nat × Nat) (f : Nat), v1 = .string r ∧ v6 = .bool g ∧ OutTo ob b most D' M W wr ∧ r.size ≤ 65535 * f ∧ ((0 < r.size ∨ g = true) ∧ 0 < f ∧ f ≤ 17 ∧ storedF f last D' r = T ∨ g = false ∧ r.size = 0 ∧ D' = T)) (fun v1 v6 _ => stMes v1 v6)
  case atStart => exact ⟨raw, true, D, 17, rfl, rfl, HI.out.refl, by have := HT.out.2; omega, .inl ⟨.inr rfl, by omega, by omega, HT.out.1⟩⟩
  case round =>
    obtain ⟨r, g, D', f, rfl, rfl, ho, hf, hrel⟩ := hrel
    rcases hrel with ⟨hgo, hf0, hf17, hst⟩ | ⟨rfl, hr0, rfl⟩
    · obtain ⟨M1, k1, f1, n1⟩ := ho
      obtain ⟨n, hn⟩ : ∃ n, min r.size 65535 = n := ⟨_, rfl⟩
      have hn1 : n ≤ r.size := by omega
      have hni : min (r.size : Int) 65535 = (n : Int) := by omega
      have hn6 : (n : Int) ≤ 65535 := by omega
      have hns : (n : Int) ≤ (r.size : Int) := by omega
      have hsz : (r.size : Int) ≤ 1114095 := by
        have := Nat.mul_le_mul_left 65535 hf17
        omega
      have HK := Lib.hid (And.intro k1 (And.intro f1 n1))
      have hne : 0 < r.size → r.toList.isEmpty = false := fun h0 => by
        rw [ByteArray.toList_eq, List.isEmpty_eq_false_iff]
        intro h
        have h1 : r.size = r.data.toList.length := Lib.size_eq r
        rw [h, List.length_nil] at h1
        omega
      go_upto_region 1 with fail
      go_cut [12] from 8 to 12 (fun v12 wx => v12 = .bool true ∧ wx = wr)
      case first =>
        cases g
        · have h0 : 0 < r.size := by rcases hgo with h | h; exact h; cases h
          have hne := hne h0
          go_wp2_with fail
          go_meet
          case rel => exact ⟨rfl, rfl⟩
        · go_wp2_with fail
          go_meet
          case rel => exact ⟨rfl, rfl⟩
      case rest =>
      obtain ⟨rfl, hwr⟩ := hcut
      subst hwr
      go_upto_region 4 with fail
      go_cut [] from 16 to 24 (fun wx => OutTo ob b most (putP D' ((last && decide (n = r.size)).toNat, 3)) M1 wc wx)
      case first =>
        cases last
        · have HC := Lib.hid (obegin_ok ob b most 0 false D' M1 wc HK.out.1 hm (by omega))
          go_wp2_with fail
          refine HC.out.mono ?_
          rintro e w2 ⟨rfl, h2⟩
          have H2 := Lib.hid h2
          clear h2
          go_wp2_with fail
          go_meet
          case rel => simpa using H2.out
        · by_cases hl : n = r.size
          · have HC := Lib.hid (obegin_ok ob b most 0 true D' M1 wc HK.out.1 hm (by omega))
            have hli : ((n : Int) == (r.size : Int)) = true := by rw [beq_iff_eq]; omega
            have HL := Lib.hid hl
            clear hl
            go_wp2_with fail
            refine HC.out.mono ?_
            rintro e w2 ⟨rfl, h2⟩
            have H2 := Lib.hid h2
            clear h2
            go_wp2_with fail
            go_meet
            case rel => simpa [HL.out] using H2.out
          · have HC := Lib.hid (obegin_ok ob b most 0 false D' M1 wc HK.out.1 hm (by omega))
            have hli : ((n : Int) == (r.size : Int)) = false := by rw [beq_eq_false_iff_ne]; omega
            go_wp2_with fail
            refine HC.out.mono ?_
            rintro e w2 ⟨rfl, h2⟩
            have H2 := Lib.hid h2
            clear h2
            go_wp2_with fail
            go_meet
            case rel => simpa [hl] using H2.out
      case rest =>
      obtain ⟨D1, hD1⟩ : ∃ D1, putP D' ((last && decide (n = r.size)).toNat, 3) = D1 := ⟨_, rfl⟩
      rw [hD1] at hcut
      obtain ⟨M2, k2, f2, n2⟩ := hcut
      obtain ⟨v2, N2, L2, e2, rfl, hw2, hob2, hb2, hc2⟩ := k2.get
      have K2 := Lib.hid (And.intro k2 (And.intro f2 n2))
      have c0 := cell_of hb2 0
      have c1 := cell_of hb2 1
      simp at c0 c1
      have hlt2 := lt_of hb2
      have hrm2 := hw2.rm
      have HX := Lib.hid (And.intro hw2 (And.intro hob2 (And.intro hb2 hlt2)))
      have HD1 := Lib.hid hD1
      clear k2 f2 n2 hw2 hob2 hb2 hlt2 hD1
      go_upto_if 29 with fail
      go_cut [] from 25 to 37 (fun wx => OutTo ob b most (padP D1) (ob :: wfp b v2) wc wx)
      case first =>
        rcases hc2 with ⟨hfit, rfl, rfl, rfl⟩ | ⟨hfit, rfl⟩
        · have HC := Lib.hid (walign_any b v2 D1.1 D1.2 most wc HX.out.1 (by omega) (by omega))
          clear hrm2
          go_wp2_with fail
          refine HC.out.mono ?_
          rintro e w3 ⟨rfl, v', hw', hnew, hf'⟩
          have hb1 := hf'.blk HX.out.2.2.1 HX.out.2.1
          have d0 := cell_of hb1 0
          have d1 := cell_of hb1 1
          have z0 := free_of hb1 0
          have z1 := free_of hb1 1
          simp at d0 d1
          have HY := Lib.hid (OutI.stored (D := padP D1) (e := 0) HX.out.2.2.2 hw' hnew hf' HX.out.2.1 HX.out.2.2.1 (.inl ⟨by have := hw'.rm; unfold roomy padP putP; simpa using this, rfl, by unfold padP putP; simp, rfl⟩))
          clear hw' hnew hf' hb1 c0 c1
          go_wp2_with fail
          go_meet
          case rel => exact HY.out
        · go_wp2_with fail
          go_meet
          case rel => exact (K2.out.1.over hfit (by unfold padP putP; simp)).refl
      case rest =>
      obtain ⟨M3, k3, f3, n3⟩ := hcut
      have K3 := Lib.hid (And.intro k3 (And.intro f3 n3))
      have n16 : n < 2 ^ 16 := by omega
      have HC1 := Lib.hid (obits_ok ob b most n 16 (padP D1) M3 wc k3 hm (by omega) n16)
      clear k3 f3 n3 c0 c1 hc2 hrm2
      go_wp2_with fail
      refine HC1.out.mono ?_
      rintro e w4 ⟨rfl, M4, k4, f4, n4⟩
      have K4 := Lib.hid (And.intro k4 (And.intro f4 n4))
      have HC2 := Lib.hid (obits_ok ob b most (65535 - n) 16 (putP (padP D1) (n, 16)) M4 w4 k4 hm (by omega) (by omega))
      rw [← not16 n (by omega)] at HC2
      clear k4 f4 n4 HC1
      go_wp2_with fail
      refine HC2.out.mono ?_
      rintro e w5 ⟨rfl, M5, k5, f5, n5⟩
      obtain ⟨D5, hD5⟩ : ∃ D5, putP (putP (padP D1) (n, 16)) (65535 - n, 16) = D5 := ⟨_, rfl⟩
      rw [hD5] at k5
      obtain ⟨v5, N5, L5, e5, rfl, hw5, hob5, hb5, hc5⟩ := k5.get
      have K5 := Lib.hid (And.intro k5 (And.intro f5 n5))
      have c0 := cell_of hb5 0
      have c1 := cell_of hb5 1
      simp at c0 c1
      have hlt5 := lt_of hb5
      have hrm5 := hw5.rm
      have HX5 := Lib.hid (And.intro hw5 (And.intro hob5 (And.intro hb5 hlt5)))
      have HD5 := Lib.hid hD5
      clear k5 f5 n5 hw5 hob5 hb5 hlt5 hD5 HC2
      obtain ⟨s, hs⟩ : ∃ s, r.extract 0 n = s := ⟨_, rfl⟩
      have hss : s.size = n := by rw [← hs, ByteArray.size_extract]; omega
      have HS := Lib.hid (And.intro hs hss)
      have hex : ∀ W : World, (Instr.slice 9 (.string r) none (some (.int .i64 (n : Int))) none).run Tryz.prog W = .ok (.string s) W := fun W => by
        rw [run_slice_string_h W _ r Tryz.underlying9 .i64 (n : Int) (by omega) (by omega)]
        rw [← hs]
        simp
      go_upto_if 52 with fail
      go_cut [] from 48 to 63 (fun wx => OutTo ob b most (putP D5 (num s, 8 * s.size)) (ob :: wfp b v5) w5 wx)
      case first =>
        rcases hc5 with ⟨hfit, rfl, rfl, rfl⟩ | ⟨hfit, rfl⟩
        · obtain ⟨E, hE⟩ := bytes_out b v5 D5 most s w5 HX5.out.1 (by rw [← HD5.out]; unfold padP putP pad; simp only; omega) (by omega) hm
          have HC := Lib.hid hE
          clear hE hrm5
          go_wp2_with fail
          go_region_held3 (fun W => W.cell? ⟨ob, 0, none⟩ = some (.pointer (some ⟨b, 0, none⟩))) (first | go_keep | exact keep_set1 (by assumption)) (first | (go_at_call 44; (with_reducible refine (HC.out _ (by first | exact Fr.refl _ _ | exact Fr.drew (Fr.refl _ _))).mono ?_); rintro e w6 ⟨rfl, v', N', L', hw', hnew, hf', hcc⟩; have hb1 := hf'.blk HX5.out.2.2.1 HX5.out.2.1; have d0 := cell_of hb1 0; have d1 := cell_of hb1 1; have z0 := free_of hb1 0; have z1 := free_of hb1 1; simp at d0 d1; have HY := Lib.hid (OutI.stored (D := putP D5 (num s, 8 * s.size)) (e := E) HX5.out.2.2.2 hw' hnew hf' HX5.out.2.1 HX5.out.2.2.1 hcc); clear hw' hnew hf' hb1 hcc))
          all_goals go_wp2_with fail
          all_goals go_meet
          all_goals (case rel => exact HY.out)
        · go_wp2_with fail
          go_meet
          case rel => exact (K5.out.1.over hfit (by unfold putP; simp)).refl
      case rest =>
      have HC3 := Lib.hid hcut
      have HST := Lib.hid (And.intro hst (And.intro hgo (And.intro hf (And.intro hn (And.intro hf0 hf17)))))
      clear hcut hc5 c0 c1 hst hgo hf hf0 hf17 hrm5 hex
      go_wp2_with fail
      have hto : OutTo ob b most (putP D5 (num s, 8 * s.size)) M W wc := OutTo.trans HK.out.1 HK.out.2.1 HK.out.2.2 (OutTo.trans K2.out.1 K2.out.2.1 K2.out.2.2 (OutTo.trans K3.out.1 K3.out.2.1 K3.out.2.2 (OutTo.trans K4.out.1 K4.out.2.1 K4.out.2.2 (OutTo.trans K5.out.1 K5.out.2.1 K5.out.2.2 HC3.out))))
      have hone : putP D5 (num s, 8 * s.size) = oneD D' s (last && decide (n = r.size)) := by
        unfold oneD
        rw [HD1.out, hss, HD5.out]
      obtain ⟨hst, hgo, hf, hn, hf0, hf17⟩ := HST.out
      have hsr : (r.extract n r.size).size = r.size - n := by rw [ByteArray.size_extract]; omega
      rw [hone] at hto
      obtain ⟨f', rfl⟩ : ∃ f', f = f' + 1 := ⟨f - 1, by omega⟩
      unfold storedF at hst
      refine ⟨⟨r.extract n r.size, false, _, f', rfl, rfl, hto, by rw [hsr]; omega, ?_⟩, ?_⟩
      · by_cases hbig : r.size ≤ 65535
        · right
          rw [if_pos hbig] at hst
          have hnr : n = r.size := by omega
          refine ⟨rfl, by omega, ?_⟩
          rw [← hst]
          have e1 : s = r := by rw [← HS.out.1, hnr, extract_whole]
          simp [e1, hnr]
        · left
          rw [if_neg hbig] at hst
          have hnr : n = 65535 := by omega
          have hnn : ¬ n = r.size := by omega
          refine ⟨.inl (by omega), by omega, by omega, ?_⟩
          rw [← hst]
          have e1 : s = r.extract 0 65535 := by rw [← HS.out.1, hnr]
          have hd : decide (n = r.size) = false := by simp [hnn]
          rw [e1, hd, Bool.and_false, hnr]
      · unfold stMes
        simp only [hsr]
        rcases hgo with h | rfl
        · cases g <;> simp <;> omega
        · simp; omega
    · have hemp : r.toList.isEmpty = true := by
        rw [ByteArray.toList_eq, List.isEmpty_iff]
        have h1 : r.size = r.data.toList.length := Lib.size_eq r
        exact List.length_eq_zero_iff.1 (by omega)
      have HO := Lib.hid ho
      clear ho hf
      go_wp2_with fail
      refine bodyPost_end (v := .tuple #[]) (by simp [results, Tryz.results25, go_sem]) rfl ?_
      exact ⟨rfl, HO.out⟩
end Go.Proofs.YtciejmlhdmjajaaGreat

