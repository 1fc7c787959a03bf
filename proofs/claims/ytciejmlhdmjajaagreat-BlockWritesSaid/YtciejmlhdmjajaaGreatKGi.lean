/- (For the great seat.) The reference's runs: zeros, others, Pack. (For the great seat.) The reference's Pack. (For the great seat.) The reference's upto. The document's way to codes, in plain Lean: one behind the other, by lengths; each is the canonical one. The document's kinds of lengths, and its codes: platenref05's Kind and Codes. The document's codes: platenref05's Codes. (For the great seat.) The reference's symbols by codes. (For the great seat.) The reference's bits of a run's symbol. (For the great seat.) The reference's head of codes. -/
import Derived.Test.YtciejmlhdmjajaaGreatKRg
import Derived.Test.YtciejmlhdmjajaaGreatKEe
import Derived.Test.YtciejmlhdmjajaaGreatKHc
import Derived.Test.YtciejmlhdmjajaaGreatKEs
import Derived.Test.YtciejmlhdmjajaaGreatKGb
import Derived.Test.YtciejmlhdmjajaaGreatKHj
import Derived.Test.YtciejmlhdmjajaaGreatKFk
import Derived.Test.YtciejmlhdmjajaaGreatKFb
import Derived.Test.YtciejmlhdmjajaaGreatKFe
import Derived.Test.YtciejmlhdmjajaaGreatKEg
namespace Go.Proofs.YtciejmlhdmjajaaGreat
open Go.RowKit
set_option linter.unusedVariables false
set_option linter.unusedSimpArgs false

/-- A row of runs, as far as it has come. -/
def RunRow (z : Nat) (w0 : World) (xs : List (Nat × Nat)) (v : Value) (w : World) : Prop := w.ownsRow z 87 2 v xs.length (xs.flatMap RunE) ∧ Below z w0 w ∧ z ≤ w.heap.size
theorem zeros_step (m : Nat) (h : 11 ≤ m) : runL 0 m = (18, min m 138 - 11) :: runL 0 (m - min m 138) := by
  unfold runL
  rw [if_pos rfl, if_pos rfl, repL_step 18 m h, repR_step 18 m h]
  rfl
theorem zeros_few (m : Nat) (h : m < 11) : runL 0 m = if 3 ≤ m then [(17, m - 3)] else List.replicate m (0, 0) := by
  unfold runL
  rw [if_pos rfl, repL_end 18 m h, repR_end 18 m h]
  split
  · rename_i h3
    have e : min m (mostN 17) = m := by show min m 10 = m; omega
    rw [repL_step 17 m h3, repR_step 17 m h3, e, Nat.sub_self, repL_end 17 0 (by decide), repR_end 17 0 (by decide)]
    rfl
  · rename_i h3
    rw [repL_end 17 m (by show m < 3; omega), repR_end 17 m (by show m < 3; omega)]
    rfl
theorem RunRow.more {z : Nat} {w0 : World} {xs ys : List (Nat × Nat)} {v : Value} {w w' : World} (p : Nat × Nat) {cap g : Nat} (hQ : Pushed z w0 (w.alloc (.cells #[.int .u8 (p.1 : Int), .int .u8 (p.2 : Int)] 87)) w' 87 2 v g cap ((xs ++ ys).length + 1) ((xs ++ ys).flatMap RunE ++ [.int .u8 (p.1 : Int), .int .u8 (p.2 : Int)])) (hz : z ≤ w'.heap.size) :
    RunRow z w0 (xs ++ (ys ++ [p])) (.slice (some ⟨g, 0, none⟩) ((xs ++ ys).length + 1) cap) w' := by
  refine ⟨?_, hQ.below, hz⟩
  rw [← List.append_assoc, show (xs ++ ys ++ [p]).length = (xs ++ ys).length + 1 by simp; omega, List.flatMap_append]
  exact hQ.own
set_option maxRecDepth 100000 in
set_option maxHeartbeats 1600000 in
theorem rzeros_ok (z : Nat) (w0 : World) (xs : List (Nat × Nat)) (v : Value) (n : Nat) (w : World) (h : RunRow z w0 xs v w) (hx : xs.length ≤ 10000) (hn : n ≤ 10000) :
    Calls Tryz.prog 76 #[v, .int .i64 (n : Int)] w fun e w' => ∃ v', e = .returned v' ∧ RunRow z w0 (xs ++ runL 0 n) v' w' := by
  obtain ⟨ao, co, rfl⟩ := row_form h.1
  have HI := Lib.hid h
  have hni : (n : Int) ≤ 10000 := by omega
  clear h
  go_enter Tryz.func76, Tryz.ntmps76
  go_wp2_with fail
  go_loopw [0, 1] (fun v0 v1 wr => ∃ (m : Nat) (ys : List (Nat × Nat)), v1 = .int .i64 (m : Int) ∧ RunRow z w0 (xs ++ ys) v0 wr ∧ runL 0 n = ys ++ runL 0 m ∧ ys.length + m ≤ n) (fun _ v1 _ => (intOf v1).toNat)
  case atStart => exact ⟨n, [], rfl, by simpa using HI.out, rfl, by simp⟩
  case round =>
    obtain ⟨m, ys, rfl, hR, hrl, hlen⟩ := hrel
    obtain ⟨ao, co, rfl⟩ := row_form hR.1
    obtain ⟨ln, hln⟩ : ∃ ln, (xs ++ ys).length = ln := ⟨_, rfl⟩
    have hlb : ln ≤ 20000 := by rw [← hln, List.length_append]; omega
    have R0 := Lib.hid (show wr.ownsRow z 87 2 (.slice ao ln co) ln ((xs ++ ys).flatMap RunE) from by rw [← hln]; exact hR.1)
    have R1 := Lib.hid hR.2.1
    have R2 := Lib.hid hR.2.2
    have HLn := Lib.hid hln
    have HRL := Lib.hid hrl
    rw [hln]
    clear hR hrl hln
    by_cases h11 : 11 ≤ m
    · have h11i : 11 ≤ (m : Int) := by omega
      obtain ⟨k, hk⟩ : ∃ k, min m 138 = k := ⟨_, rfl⟩
      have hki : min (m : Int) 138 = (k : Int) := by omega
      have hk1 : 11 ≤ (k : Int) := by omega
      have hk2 : (k : Int) ≤ 138 := by omega
      have hkm : (k : Int) ≤ (m : Int) := by omega
      have hmi : (m : Int) ≤ 10000 := by omega
      have HZ := Lib.hid (zeros_step m h11)
      rw [hk] at HZ
      obtain ⟨j, hj⟩ : ∃ j, k - 11 = j := ⟨_, rfl⟩
      have hji : (k : Int) - 11 = (j : Int) := by omega
      rw [hj] at HZ
      clear hk
      go_wp2_with (at_builtin; go_must (refine wpList_push z w0 wr rfl (.tmp 10) (.tmp 15) 56 rfl 87 2 2 runElem (.slice ao ln co) ln _ rfl R0 R1 R2.out #[.int .u8 18, .int .u8 (j : Int)] 1 1 rfl rfl rfl (by omega) (by omega) (by omega) ?_); intro g6 c6 w6 HQ)
      have hQ := HQ.out
      have hzz : z ≤ w6.heap.size := by have h1 := R2.out; have h2 := hQ.grown.size; simp at h2; omega
      rw [← HLn.out] at hQ ⊢
      exact ⟨⟨m - k, ys ++ [(18, j)], by go_num, RunRow.more (18, j) hQ hzz, by rw [HRL.out, HZ.out]; simp, by simp; omega⟩, by simp [intOf]; omega⟩
    · have h11i : (m : Int) < 11 := by omega
      have HF := Lib.hid (zeros_few m (by omega))
      by_cases h3 : 3 ≤ m
      · have h3i : 3 ≤ (m : Int) := by omega
        have hmi : (m : Int) ≤ 10000 := by omega
        obtain ⟨j, hj⟩ : ∃ j, m - 3 = j := ⟨_, rfl⟩
        have hji : (m : Int) - 3 = (j : Int) := by omega
        rw [if_pos h3, hj] at HF
        go_wp2_with (at_builtin; go_must (refine wpList_push z w0 wr rfl (.tmp 22) (.tmp 27) 56 rfl 87 2 2 runElem (.slice ao ln co) ln _ rfl R0 R1 R2.out #[.int .u8 17, .int .u8 (j : Int)] 1 1 rfl rfl rfl (by omega) (by omega) (by omega) ?_); intro g6 c6 w6 HQ)
        have hQ := HQ.out
        have hzz : z ≤ w6.heap.size := by have h1 := R2.out; have h2 := hQ.grown.size; simp at h2; omega
        rw [← HLn.out] at hQ
        have HR := Lib.hid (RunRow.more (17, j) hQ hzz)
        have hl9 : (xs ++ ys).length = ln := HLn.out
        rw [hl9] at HR
        clear hQ HQ
        go_wp2_with fail
        go_loopw [0, 1] (fun v0 v1 wr => ∃ (m' : Nat) (ys' : List (Nat × Nat)), v1 = .int .i64 (m' : Int) ∧ RunRow z w0 (xs ++ ys') v0 wr ∧ runL 0 n = ys' ++ List.replicate m' (0, 0) ∧ ys'.length + m' ≤ n) (fun _ v1 _ => (intOf v1).toNat)
        case atStart => exact ⟨0, ys ++ [(17, j)], rfl, HR.out, by rw [HRL.out, HF.out]; simp, by simp; omega⟩
        case round =>
          obtain ⟨m', ys', rfl, hR', hrl', hlen'⟩ := hrel
          obtain ⟨ao', co', rfl⟩ := row_form hR'.1
          obtain ⟨ln', hln'⟩ : ∃ ln, (xs ++ ys').length = ln := ⟨_, rfl⟩
          have hlb' : ln' ≤ 20000 := by rw [← hln', List.length_append]; omega
          have P0 := Lib.hid (show wr.ownsRow z 87 2 (.slice ao' ln' co') ln' ((xs ++ ys').flatMap RunE) from by rw [← hln']; exact hR'.1)
          have P1 := Lib.hid hR'.2.1
          have P2 := Lib.hid hR'.2.2
          have PLn := Lib.hid hln'
          have PRL := Lib.hid hrl'
          rw [hln']
          clear hR' hrl' hln'
          by_cases h0 : 0 < m'
          · have h0i : 0 < (m' : Int) := by omega
            have hmi' : (m' : Int) ≤ 10000 := by omega
            obtain ⟨k', hk'⟩ : ∃ k', m' = k' + 1 := ⟨m' - 1, by omega⟩
            have hki' : (m' : Int) - 1 = (k' : Int) := by omega
            have HKk := Lib.hid hk'
            clear hk'
            go_wp2_with (at_builtin; go_must (refine wpList_push z w0 wr rfl (.tmp 31) (.tmp 33) 56 rfl 87 2 2 runElem (.slice ao' ln' co') ln' _ rfl P0 P1 P2.out #[.int .u8 0, .int .u8 0] 1 1 rfl rfl rfl (by omega) (by omega) (by omega) ?_); intro g7 c7 w7 HQ7)
            have hQ7 := HQ7.out
            have hzz7 : z ≤ w7.heap.size := by have h1 := P2.out; have h2 := hQ7.grown.size; simp at h2; omega
            rw [← PLn.out] at hQ7 ⊢
            exact ⟨⟨k', ys' ++ [(0, 0)], by go_num, RunRow.more (0, 0) hQ7 hzz7, by rw [PRL.out, HKk.out, List.replicate_succ]; simp, by have := HKk.out; simp; omega⟩, by have := HKk.out; simp [intOf]; omega⟩
          · have h0i : ¬ 0 < (m' : Int) := by omega
            have hm0 : m' = 0 := by omega
            subst hm0
            have HFin := Lib.hid (show RunRow z w0 (xs ++ runL 0 n) (.slice ao' ln' co') wr from by rw [PRL.out, List.replicate_zero, List.append_nil]; exact ⟨by rw [PLn.out]; exact P0.out, P1.out, P2.out⟩)
            go_wp2_with fail
            go_ret
            exact ⟨_, rfl, HFin.out⟩
      · have h3i : (m : Int) < 3 := by omega
        rw [if_neg h3] at HF
        go_wp2_with fail
        go_loopw [0, 1] (fun v0 v1 wr => ∃ (m' : Nat) (ys' : List (Nat × Nat)), v1 = .int .i64 (m' : Int) ∧ RunRow z w0 (xs ++ ys') v0 wr ∧ runL 0 n = ys' ++ List.replicate m' (0, 0) ∧ ys'.length + m' ≤ n) (fun _ v1 _ => (intOf v1).toNat)
        case atStart => exact ⟨m, ys, rfl, ⟨by rw [HLn.out]; exact R0.out, R1.out, R2.out⟩, by rw [HRL.out, HF.out], by omega⟩
        case round =>
          obtain ⟨m', ys', rfl, hR', hrl', hlen'⟩ := hrel
          obtain ⟨ao', co', rfl⟩ := row_form hR'.1
          obtain ⟨ln', hln'⟩ : ∃ ln, (xs ++ ys').length = ln := ⟨_, rfl⟩
          have hlb' : ln' ≤ 20000 := by rw [← hln', List.length_append]; omega
          have P0 := Lib.hid (show wr.ownsRow z 87 2 (.slice ao' ln' co') ln' ((xs ++ ys').flatMap RunE) from by rw [← hln']; exact hR'.1)
          have P1 := Lib.hid hR'.2.1
          have P2 := Lib.hid hR'.2.2
          have PLn := Lib.hid hln'
          have PRL := Lib.hid hrl'
          rw [hln']
          clear hR' hrl' hln'
          by_cases h0 : 0 < m'
          · have h0i : 0 < (m' : Int) := by omega
            have hmi' : (m' : Int) ≤ 10000 := by omega
            obtain ⟨k', hk'⟩ : ∃ k', m' = k' + 1 := ⟨m' - 1, by omega⟩
            have hki' : (m' : Int) - 1 = (k' : Int) := by omega
            have HKk := Lib.hid hk'
            clear hk'
            go_wp2_with (at_builtin; go_must (refine wpList_push z w0 wr rfl (.tmp 31) (.tmp 33) 56 rfl 87 2 2 runElem (.slice ao' ln' co') ln' _ rfl P0 P1 P2.out #[.int .u8 0, .int .u8 0] 1 1 rfl rfl rfl (by omega) (by omega) (by omega) ?_); intro g7 c7 w7 HQ7)
            have hQ7 := HQ7.out
            have hzz7 : z ≤ w7.heap.size := by have h1 := P2.out; have h2 := hQ7.grown.size; simp at h2; omega
            rw [← PLn.out] at hQ7 ⊢
            exact ⟨⟨k', ys' ++ [(0, 0)], by go_num, RunRow.more (0, 0) hQ7 hzz7, by rw [PRL.out, HKk.out, List.replicate_succ]; simp, by have := HKk.out; simp; omega⟩, by have := HKk.out; simp [intOf]; omega⟩
          · have h0i : ¬ 0 < (m' : Int) := by omega
            have hm0 : m' = 0 := by omega
            subst hm0
            have HFin := Lib.hid (show RunRow z w0 (xs ++ runL 0 n) (.slice ao' ln' co') wr from by rw [PRL.out, List.replicate_zero, List.append_nil]; exact ⟨by rw [PLn.out]; exact P0.out, P1.out, P2.out⟩)
            go_wp2_with fail
            go_ret
            exact ⟨_, rfl, HFin.out⟩
def othT (v m : Nat) : List (Nat × Nat) := repL 16 m ++ List.replicate (repR 16 m) (v, 0)
theorem oth_step (v m : Nat) (h : 3 ≤ m) : othT v m = (16, min m 6 - 3) :: othT v (m - min m 6) := by
  unfold othT
  rw [repL_step 16 m h, repR_step 16 m h]
  rfl
theorem oth_few (v m : Nat) (h : m < 3) : othT v m = List.replicate m (v, 0) := by
  unfold othT
  rw [repL_end 16 m h, repR_end 16 m h]
  rfl
theorem oth_runL (v n : Nat) (hv : v ≠ 0) : runL v n = (v, 0) :: othT v (n - 1) := by
  unfold runL othT
  rw [if_neg hv]
set_option maxRecDepth 100000 in
set_option maxHeartbeats 1600000 in
theorem rothers_ok (z : Nat) (w0 : World) (xs : List (Nat × Nat)) (v : Value) (u n : Nat) (w : World) (h : RunRow z w0 xs v w) (hx : xs.length ≤ 10000) (hn : n ≤ 10000) (hn1 : 1 ≤ n) (hu : u ≠ 0) (hu15 : u ≤ 15) :
    Calls Tryz.prog 77 #[v, .int .u8 (u : Int), .int .i64 (n : Int)] w fun e w' => ∃ v', e = .returned v' ∧ RunRow z w0 (xs ++ runL u n) v' w' := by
  obtain ⟨ao, co, rfl⟩ := row_form h.1
  have R0 := Lib.hid h.1
  have R1 := Lib.hid h.2.1
  have R2 := Lib.hid h.2.2
  have hni : (n : Int) ≤ 10000 := by omega
  have hni1 : 1 ≤ (n : Int) := by omega
  have hui : (u : Int) ≤ 15 := by omega
  have hxl : xs.length ≤ 10000 := hx
  have HRL := Lib.hid (oth_runL u n hu)
  clear h hx hu
  go_enter Tryz.func77, Tryz.ntmps77
  go_wp2_with (at_builtin; go_must (refine wpList_push z w0 w rfl (.tmp 8) (.tmp 11) 56 rfl 87 2 2 runElem (.slice ao xs.length co) xs.length _ rfl R0 R1 R2.out #[.int .u8 (u : Int), .int .u8 0] 1 1 rfl rfl rfl (by omega) (by omega) (by omega) ?_); intro g6 c6 w6 HQ)
  have hQ := HQ.out
  have hzz : z ≤ w6.heap.size := by have h1 := R2.out; have h2 := hQ.grown.size; simp at h2; omega
  have hq : RunRow z w0 (xs ++ [(u, 0)]) (.slice (some ⟨g6, 0, none⟩) (xs.length + 1) c6) w6 := by
    have := RunRow.more (xs := xs) (ys := []) (u, 0) (by simpa using hQ) hzz
    simpa using this
  have HR := Lib.hid hq
  clear hQ HQ hq hzz
  go_wp2_with fail
  go_loopw [0, 2] (fun v0 v2 wr => ∃ (m : Nat) (ys : List (Nat × Nat)), v2 = .int .i64 (m : Int) ∧ RunRow z w0 (xs ++ ys) v0 wr ∧ runL u n = ys ++ othT u m ∧ ys.length + m ≤ n) (fun _ v2 _ => (intOf v2).toNat)
  case atStart => exact ⟨n - 1, [(u, 0)], by go_num, HR.out, by rw [HRL.out]; rfl, by simp; omega⟩
  case round =>
    obtain ⟨m, ys, rfl, hR, hrl, hlen⟩ := hrel
    obtain ⟨ao, co, rfl⟩ := row_form hR.1
    obtain ⟨ln, hln⟩ : ∃ ln, (xs ++ ys).length = ln := ⟨_, rfl⟩
    have hlb : ln ≤ 20000 := by rw [← hln, List.length_append]; omega
    have R0 := Lib.hid (show wr.ownsRow z 87 2 (.slice ao ln co) ln ((xs ++ ys).flatMap RunE) from by rw [← hln]; exact hR.1)
    have R1 := Lib.hid hR.2.1
    have R2 := Lib.hid hR.2.2
    have HLn := Lib.hid hln
    have HRL2 := Lib.hid hrl
    rw [hln]
    clear hR hrl hln
    by_cases h3 : 3 ≤ m
    · have h3i : 3 ≤ (m : Int) := by omega
      obtain ⟨k, hk⟩ : ∃ k, min m 6 = k := ⟨_, rfl⟩
      have hki : min (m : Int) 6 = (k : Int) := by omega
      have hk1 : 3 ≤ (k : Int) := by omega
      have hk2 : (k : Int) ≤ 6 := by omega
      have hkm : (k : Int) ≤ (m : Int) := by omega
      have hmi : (m : Int) ≤ 10000 := by omega
      have HZ := Lib.hid (oth_step u m h3)
      rw [hk] at HZ
      obtain ⟨j, hj⟩ : ∃ j, k - 3 = j := ⟨_, rfl⟩
      have hji : (k : Int) - 3 = (j : Int) := by omega
      rw [hj] at HZ
      clear hk
      go_wp2_with (at_builtin; go_must (refine wpList_push z w0 wr rfl (.tmp 19) (.tmp 24) 56 rfl 87 2 2 runElem (.slice ao ln co) ln _ rfl R0 R1 R2.out #[.int .u8 16, .int .u8 (j : Int)] 1 1 rfl rfl rfl (by omega) (by omega) (by omega) ?_); intro g6 c6 w6 HQ)
      have hQ := HQ.out
      have hzz : z ≤ w6.heap.size := by have h1 := R2.out; have h2 := hQ.grown.size; simp at h2; omega
      rw [← HLn.out] at hQ ⊢
      exact ⟨⟨m - k, ys ++ [(16, j)], by go_num, RunRow.more (16, j) hQ hzz, by rw [HRL2.out, HZ.out]; simp, by simp; omega⟩, by simp [intOf]; omega⟩
    · have h3i : (m : Int) < 3 := by omega
      have HF := Lib.hid (oth_few u m (by omega))
      go_wp2_with fail
      go_loopw [0, 2] (fun v0 v2 wr => ∃ (m' : Nat) (ys' : List (Nat × Nat)), v2 = .int .i64 (m' : Int) ∧ RunRow z w0 (xs ++ ys') v0 wr ∧ runL u n = ys' ++ List.replicate m' (u, 0) ∧ ys'.length + m' ≤ n) (fun _ v2 _ => (intOf v2).toNat)
      case atStart => exact ⟨m, ys, rfl, ⟨by rw [HLn.out]; exact R0.out, R1.out, R2.out⟩, by rw [HRL2.out, HF.out], by omega⟩
      case round =>
        obtain ⟨m', ys', rfl, hR', hrl', hlen'⟩ := hrel
        obtain ⟨ao', co', rfl⟩ := row_form hR'.1
        obtain ⟨ln', hln'⟩ : ∃ ln, (xs ++ ys').length = ln := ⟨_, rfl⟩
        have hlb' : ln' ≤ 20000 := by rw [← hln', List.length_append]; omega
        have P0 := Lib.hid (show wr.ownsRow z 87 2 (.slice ao' ln' co') ln' ((xs ++ ys').flatMap RunE) from by rw [← hln']; exact hR'.1)
        have P1 := Lib.hid hR'.2.1
        have P2 := Lib.hid hR'.2.2
        have PLn := Lib.hid hln'
        have PRL := Lib.hid hrl'
        rw [hln']
        clear hR' hrl' hln'
        by_cases h0 : 0 < m'
        · have h0i : 0 < (m' : Int) := by omega
          have hmi' : (m' : Int) ≤ 10000 := by omega
          obtain ⟨k', hk'⟩ : ∃ k', m' = k' + 1 := ⟨m' - 1, by omega⟩
          have hki' : (m' : Int) - 1 = (k' : Int) := by omega
          have HKk := Lib.hid hk'
          clear hk'
          go_wp2_with (at_builtin; go_must (refine wpList_push z w0 wr rfl (.tmp 31) (.tmp 34) 56 rfl 87 2 2 runElem (.slice ao' ln' co') ln' _ rfl P0 P1 P2.out #[.int .u8 (u : Int), .int .u8 0] 1 1 rfl rfl rfl (by omega) (by omega) (by omega) ?_); intro g7 c7 w7 HQ7)
          have hQ7 := HQ7.out
          have hzz7 : z ≤ w7.heap.size := by have h1 := P2.out; have h2 := hQ7.grown.size; simp at h2; omega
          rw [← PLn.out] at hQ7 ⊢
          exact ⟨⟨k', ys' ++ [(u, 0)], by go_num, RunRow.more (u, 0) hQ7 hzz7, by rw [PRL.out, HKk.out, List.replicate_succ]; simp, by have := HKk.out; simp; omega⟩, by have := HKk.out; simp [intOf]; omega⟩
        · have h0i : ¬ 0 < (m' : Int) := by omega
          have hm0 : m' = 0 := by omega
          subst hm0
          have HFin := Lib.hid (show RunRow z w0 (xs ++ runL u n) (.slice ao' ln' co') wr from by rw [PRL.out, List.replicate_zero, List.append_nil]; exact ⟨by rw [PLn.out]; exact P0.out, P1.out, P2.out⟩)
          go_wp2_with fail
          go_ret
          exact ⟨_, rfl, HFin.out⟩
end Go.Proofs.YtciejmlhdmjajaaGreat
namespace Go.Proofs.YtciejmlhdmjajaaGreat
open Go.RowKit
set_option linter.unusedVariables false
set_option linter.unusedSimpArgs false

set_option maxRecDepth 100000 in
set_option maxHeartbeats 3200000 in
theorem refPack_ok (a : Option Addr) (c : Nat) (l : List Nat) (w : World) (hs : SlOf U8 1 w a l) (hl : l.length ≤ 1000) (h8 : ∀ v ∈ l, v ≤ 15) :
    Calls Tryz.prog 53 #[.slice a l.length c] w fun e w' => ∃ v, e = .returned (.tuple #[v, .int .i64 0]) ∧ RunRow w.heap.size w (packL l) v w' := by
  have HB := Lib.hid (And.intro hs (And.intro hl h8))
  have hli : (l.length : Int) ≤ 1000 := by omega
  clear hs hl h8
  go_enter Tryz.func53, Tryz.ntmps53
  go_wp2_with fail
  go_loopw [4] (fun v4 wr => ∃ k : Nat, k ≤ l.length ∧ v4 = .int .i64 (k : Int) ∧ Fr [] w wr) (fun v4 _ => l.length - (intOf v4).toNat)
  case atStart => exact ⟨0, by omega, rfl, Fr.refl _ _⟩
  case round =>
    obtain ⟨k, hk, rfl, hf⟩ := hrel
    have HF := Lib.hid hf
    by_cases hlt : k < l.length
    · have hki : (k : Int) < (l.length : Int) := by omega
      obtain ⟨x, hx⟩ : ∃ x, l[k]? = some x := ⟨l[k], List.getElem?_eq_getElem hlt⟩
      have hx15 := HB.out.2.2 x (List.mem_of_getElem? hx)
      obtain ⟨b, o, rfl, hbl, hcell⟩ := (HB.out.1.fr0 hf) (by intro h; rw [h] at hx; simp at hx)
      have cc := hcell k x hx 0 (.int .u8 (x : Int)) rfl
      rw [Nat.add_zero, Nat.mul_one] at cc
      have hxi : (x : Int) ≤ 15 := by omega
      clear hcell hf hx
      go_wp2_with fail
      exact ⟨⟨k + 1, by omega, by go_num, HF.out⟩, by simp [intOf]; omega⟩
    · have hke : k = l.length := by omega
      subst hke
      clear hf
      go_wp2_with fail
      go_loopw [5, 6] (fun v5 v6 wr => ∃ (i : Nat) (ys : List (Nat × Nat)), i ≤ l.length ∧ v6 = .int .i64 (i : Int) ∧ RunRow w.heap.size w ys v5 wr ∧ packL l = ys ++ packL (l.drop i) ∧ ys.length ≤ i) (fun _ v6 _ => l.length - (intOf v6).toNat)
      case atStart => exact ⟨0, [], by omega, rfl, ⟨World.ownsRow_nil _ _ _ _, HF.out.below, HF.out.size⟩, rfl, by simp⟩
      case round =>
        obtain ⟨i, ys, hi, rfl, hR, hp, hyl⟩ := hrel
        have HR := Lib.hid hR
        have HP := Lib.hid (And.intro hp hyl)
        clear hR hp
        by_cases hlt : i < l.length
        · have hii : (i : Int) < (l.length : Int) := by omega
          obtain ⟨x, hx⟩ : ∃ x, l[i]? = some x := ⟨l[i], List.getElem?_eq_getElem hlt⟩
          have hx15 := HB.out.2.2 x (List.mem_of_getElem? hx)
          have hxi : (x : Int) ≤ 15 := by omega
          have hsl : SlOf U8 1 wr a l := HB.out.1.below HR.out.2.1
          obtain ⟨b, o, rfl, hbl, hcell⟩ := hsl (by intro h; rw [h] at hx; simp at hx)
          have HC := Lib.hid (fun (k y : Nat) (hy : l[k]? = some y) => (by have := hcell k y hy 0 (.int .u8 (y : Int)) rfl; rw [Nat.add_zero, Nat.mul_one] at this; exact this : wr.cell? ⟨b, o + k, none⟩ = some (.int .u8 (y : Int))))
          have cc := HC.out i x hx
          obtain ⟨S, hS⟩ : ∃ S, sameN x (l.drop i) = S := ⟨_, rfl⟩
          have hSl := sameN_le x (l.drop i)
          rw [hS, List.length_drop] at hSl
          have hd : l.drop i = x :: l.drop (i + 1) := by rw [List.drop_eq_getElem_cons hlt]; congr 1; rw [List.getElem?_eq_getElem hlt] at hx; exact Option.some.inj hx
          have hS1 : S = sameN x (l.drop (i + 1)) + 1 := by rw [← hS, hd]; simp [sameN]
          have hpk : packL (l.drop i) = runL x S ++ packL (l.drop (i + S)) := by
            rw [hd, packL_cons, ← hS1, List.drop_drop]
            congr 3
            omega
          have HS := Lib.hid (And.intro hS (And.intro hS1 hpk))
          have hSi : (S : Int) ≤ (l.length : Int) - (i : Int) := by omega
          have hS0 : 1 ≤ (S : Int) := by omega
          clear hcell hx hS hd hS1 hpk
          go_wp2_with fail
          go_loopw [6, 8] (fun v6 v8 wi => ∃ k : Nat, k ≤ S ∧ v8 = .int .i64 (k : Int) ∧ v6 = .int .i64 ((i : Int) + (k : Int)) ∧ wi = wr) (fun _ v8 _ => S - (intOf v8).toNat)
          case atStart => exact ⟨0, by omega, rfl, by simp, rfl⟩
          case round =>
            obtain ⟨k, hk, rfl, rfl, hwi⟩ := hrel
            replace hwi := hwi.symm
            subst hwi
            by_cases hks : k < S
            · have hki : (i : Int) + (k : Int) < (l.length : Int) := by omega
              have hg := sameN_get x (l.drop i) k (by rw [HS.out.1]; exact hks)
              rw [List.getElem?_drop] at hg
              have ck := HC.out (i + k) x hg
              clear hg
              have hkSi : (k : Int) < (S : Int) := by omega
              go_wp2_with fail
              exact ⟨⟨k + 1, by omega, by go_num, by go_num, trivial⟩, by simp [intOf]; omega⟩
            · have hkS : k = S := by omega
              subst hkS
              have hend : (i : Int) + (k : Int) = (l.length : Int) ∨ ((i : Int) + (k : Int) < (l.length : Int) ∧ ∃ y : Nat, wr.cell? ⟨b, o + (i + k), none⟩ = some (.int .u8 (y : Int)) ∧ ((y : Int) == (x : Int)) = false) := by
                by_cases hq : i + k = l.length
                · left; omega
                · right
                  obtain ⟨y, hy, hyx⟩ := sameN_stop x (l.drop i) (by rw [HS.out.1, List.length_drop]; omega)
                  rw [HS.out.1, List.getElem?_drop] at hy
                  exact ⟨by omega, y, HC.out (i + k) y hy, by rw [beq_eq_false_iff_ne]; omega⟩
              have hxl : ys.length ≤ 10000 := by have := HP.out.2; omega
              have HNext := Lib.hid (show packL l = (ys ++ runL x k) ++ packL (l.drop (i + k)) by rw [HP.out.1, HS.out.2.2, List.append_assoc])
              have HNl := Lib.hid (show (ys ++ runL x k).length ≤ i + k by rw [List.length_append]; have := runL_len x k (by omega); have := HP.out.2; omega)
              obtain ⟨aL, cL, rfl⟩ := row_form HR.out.1
              have HZ : Hid (x = 0 → Calls Tryz.prog 76 #[.slice aL ys.length cL, .int .i64 (k : Int)] wr fun e w' => ∃ v', e = .returned v' ∧ RunRow w.heap.size w (ys ++ runL x k) v' w') := Lib.hid fun hx0 => by
                subst hx0
                exact rzeros_ok _ _ ys _ k wr HR.out hxl (by omega)
              have HO : Hid (x ≠ 0 → Calls Tryz.prog 77 #[.slice aL ys.length cL, .int .u8 (x : Int), .int .i64 (k : Int)] wr fun e w' => ∃ v', e = .returned v' ∧ RunRow w.heap.size w (ys ++ runL x k) v' w') := Lib.hid fun hx0 =>
                rothers_ok _ _ ys _ x k wr HR.out hxl (by omega) (by omega) hx0 (by omega)
              rcases hend with hend | ⟨hend, y, hy, hyx⟩
              all_goals
                by_cases hx0 : x = 0
                · have hx0i : (x : Int) = 0 := by omega
                  go_wp2_with fail
                  refine (HZ.out hx0).mono ?_
                  rintro e w5 ⟨v', rfl, hR5⟩
                  have HR5 := Lib.hid hR5
                  clear hR5
                  go_wp2_with fail
                  exact ⟨⟨i + k, ys ++ runL x k, by omega, by go_num, HR5.out, HNext.out, HNl.out⟩, by simp [intOf]; omega⟩
                · have hx0i : ((x : Int) == 0) = false := by rw [beq_eq_false_iff_ne]; omega
                  go_wp2_with fail
                  refine (HO.out hx0).mono ?_
                  rintro e w5 ⟨v', rfl, hR5⟩
                  have HR5 := Lib.hid hR5
                  clear hR5
                  go_wp2_with fail
                  exact ⟨⟨i + k, ys ++ runL x k, by omega, by go_num, HR5.out, HNext.out, HNl.out⟩, by simp [intOf]; omega⟩
        · have hie : i = l.length := by omega
          subst hie
          have HFin := Lib.hid (show RunRow w.heap.size w (packL l) _ wr from by have h := HP.out.1; rw [List.drop_length, show packL [] = [] from rfl, List.append_nil] at h; rw [h]; exact HR.out)
          go_wp2_with fail
          go_ret2
          exact ⟨_, rfl, HFin.out⟩
end Go.Proofs.YtciejmlhdmjajaaGreat
namespace Go.Proofs.YtciejmlhdmjajaaGreat
open Go.RowKit
set_option linter.unusedVariables false
set_option linter.unusedSimpArgs false

theorem upto_uniq (l : List Nat) (least m : Nat) (h0 : least ≤ l.length) (h1 : least ≤ m) (h2 : m ≤ l.length) (h3 : ∀ i, m ≤ i → i < l.length → l.getD i 0 = 0) (h4 : m = least ∨ (0 < m ∧ l.getD (m - 1) 0 ≠ 0)) : uptoL l least = m := by
  have a1 := uptoD_le l least l.length
  have a2 := uptoD_ge l least l.length h0
  have a3 := uptoD_zero l least l.length
  have a4 := uptoD_last l least l.length h0
  unfold uptoL
  generalize uptoD l least l.length = u at *
  rcases Nat.lt_trichotomy u m with h | h | h
  · rcases h4 with h4 | ⟨h4, h5⟩
    · omega
    · exact absurd (a3 (m - 1) (by omega) (by omega)) h5
  · exact h
  · rcases a4 with a4 | ⟨a4, a5⟩
    · omega
    · exact absurd (h3 (u - 1) (by omega) (by omega)) a5
set_option maxRecDepth 100000 in
set_option maxHeartbeats 1600000 in
theorem refUpto_ok (a : Option Addr) (c : Nat) (l : List Nat) (least : Nat) (w : World) (hs : SlOf U8 1 w a l) (hl : l.length ≤ 1000) (h8 : ∀ x ∈ l, x < 256) (h0 : least ≤ l.length) :
    Calls Tryz.prog 52 #[.slice a l.length c, .int .i64 (least : Int)] w fun e w' => e = .returned (.int .i64 ((uptoL l least : Nat) : Int)) ∧ Fr [] w w' := by
  have HB := Lib.hid (And.intro hs (And.intro h8 h0))
  have hli : (l.length : Int) ≤ 1000 := by omega
  have hle : (least : Int) ≤ 1000 := by omega
  clear hs h8 hl
  go_enter Tryz.func52, Tryz.ntmps52
  go_wp2_with fail
  go_loopw [5, 6] (fun v5 v6 wr => ∃ j m : Nat, j ≤ l.length ∧ v6 = .int .i64 (j : Int) ∧ v5 = .int .i64 (m : Int) ∧ least ≤ m ∧ m ≤ l.length ∧ m ≤ max least j ∧ Hid (∀ i, m ≤ i → i < j → l.getD i 0 = 0) ∧ Hid (m = least ∨ (0 < m ∧ l.getD (m - 1) 0 ≠ 0)) ∧ Fr [] w wr) (fun _ v6 _ => l.length - (intOf v6).toNat)
  case atStart => exact ⟨0, least, by omega, rfl, rfl, Nat.le_refl _, h0, by omega, Lib.hid (by omega), Lib.hid (.inl rfl), Fr.refl _ _⟩
  case round =>
    obtain ⟨j, m, hj, rfl, rfl, hm1, hm2, hm3, hz, hL, hf⟩ := hrel
    have HF := Lib.hid hf
    by_cases hlt : j < l.length
    · have hji : (j : Int) < (l.length : Int) := by omega
      obtain ⟨x, hx⟩ : ∃ x, l[j]? = some x := ⟨l[j], List.getElem?_eq_getElem hlt⟩
      have hgx : l.getD j 0 = x := by rw [List.getD_eq_getElem?_getD, hx]; rfl
      obtain ⟨b, o, rfl, hbl, hcell⟩ := (HB.out.1.fr0 hf) (by intro h; rw [h] at hx; simp at hx)
      have cc := hcell j x hx 0 (.int .u8 (x : Int)) rfl
      rw [Nat.add_zero, Nat.mul_one] at cc
      have HG := Lib.hid hgx
      have hx8 := HB.out.2.1 x (List.mem_of_getElem? hx)
      clear hcell hf hx hgx
      by_cases hx0 : x = 0
      · subst hx0
        go_wp2_with fail
        refine ⟨⟨j + 1, m, by omega, by go_num, rfl, hm1, hm2, by omega, Lib.hid fun i h1 h2 => ?_, hL, HF.out⟩, by simp [intOf]; omega⟩
        by_cases hi : i = j
        · subst hi; exact HG.out
        · exact hz.out i h1 (by omega)
      · have hx0i : 0 < (x : Int) := by omega
        obtain ⟨m2, hm⟩ : ∃ m2, max m (j + 1) = m2 := ⟨_, rfl⟩
        have hmi : max (m : Int) ((j : Int) + 1) = (m2 : Int) := by omega
        go_wp2_with fail
        refine ⟨⟨j + 1, m2, by omega, by go_num, rfl, by omega, by omega, by omega, Lib.hid fun i h1 h2 => by omega, Lib.hid ?_, HF.out⟩, by simp [intOf]; omega⟩
        by_cases hmj : m ≤ j + 1
        · have e : m2 = j + 1 := by omega
          right
          rw [e, Nat.add_sub_cancel, HG.out]
          exact ⟨by omega, hx0⟩
        · have e : m2 = m := by omega
          rw [e]; exact hL.out
    · have hje : j = l.length := by omega
      subst hje
      have HU := Lib.hid (upto_uniq l least m h0 hm1 hm2 (fun i h1 h2 => hz.out i h1 h2) hL.out)
      clear hf
      go_wp2_with fail
      go_ret
      exact ⟨by rw [HU.out]; rfl, HF.out⟩
end Go.Proofs.YtciejmlhdmjajaaGreat
namespace Go.Proofs.YtciejmlhdmjajaaGreat
open Go.RowKit
set_option linter.unusedVariables false
set_option linter.unusedSimpArgs false

/-- Behind all lengths below n, and the first i symbols of length n. -/
def RefSt (l : List Nat) (n i next size : Nat) (first : Bool) : Prop :=
  (first = true ∧ next = 0 ∧ size = 0 ∧ base l n + cnt (l.take i) n = 0) ∨ (first = false ∧ size ≤ n ∧ (next + 1) * 2 ^ (n - size) = base l n + cnt (l.take i) n)
theorem ref_start (l : List Nat) : RefSt l 1 0 0 0 true := .inl ⟨rfl, rfl, rfl, by simp [base, cnt]⟩
theorem ref_skip {l : List Nat} {n i next size x : Nat} {first : Bool} (h : RefSt l n i next size first) (hx : l[i]? = some x) (hn : x ≠ n) : RefSt l n (i + 1) next size first := by
  have e := cnt_take l i n x hx
  rw [if_neg hn, Nat.add_zero] at e
  unfold RefSt
  rw [e]
  exact h
theorem ref_hit {l : List Nat} {n i next size : Nat} {first : Bool} (h : RefSt l n i next size first) (hx : l[i]? = some n) : size ≤ n ∧ (if first then next else next + 1) * 2 ^ (n - size) = codeN l i ∧ RefSt l n (i + 1) (codeN l i) n false := by
  have e := cnt_take l i n n hx
  rw [if_pos rfl] at e
  have hc : codeN l i = base l n + cnt (l.take i) n := by unfold codeN; rw [getD_of hx]
  have hst : RefSt l n (i + 1) (codeN l i) n false := .inr ⟨rfl, Nat.le_refl _, by rw [Nat.sub_self, Nat.pow_zero, Nat.mul_one, e, hc]; omega⟩
  rcases h with ⟨rfl, rfl, rfl, h4⟩ | ⟨rfl, h2, h3⟩
  · exact ⟨Nat.zero_le _, by rw [hc, h4]; simp, hst⟩
  · exact ⟨h2, by rw [hc, ← h3]; simp, hst⟩
theorem ref_turn {l : List Nat} {n next size : Nat} {first : Bool} (h : RefSt l (n + 1) l.length next size first) : RefSt l (n + 2) 0 next size first := by
  unfold RefSt at h ⊢
  rw [List.take_length] at h
  have e : base l (n + 2) + cnt (l.take 0) (n + 2) = (base l (n + 1) + cnt l (n + 1)) * 2 := by simp [base, cnt]
  rw [e]
  rcases h with ⟨h1, h2, h3, h4⟩ | ⟨h1, h2, h3⟩
  · exact .inl ⟨h1, h2, h3, by rw [h4]⟩
  · refine .inr ⟨h1, by omega, ?_⟩
    rw [← h3, show n + 2 - size = n + 1 - size + 1 by omega, Nat.pow_succ, Nat.mul_assoc]
end Go.Proofs.YtciejmlhdmjajaaGreat
namespace Go.Proofs.YtciejmlhdmjajaaGreat
open Go.RowKit
set_option linter.unusedVariables false
set_option linter.unusedSimpArgs false

/-- How many there are, and the last of them. -/
def nzc : List Nat → Nat
  | [] => 0
  | x :: l => (if x = 0 then 0 else 1) + nzc l
def lastL (l : List Nat) : Nat := l.foldl (fun a x => if x = 0 then a else x) 0
theorem nzc_append (a b : List Nat) : nzc (a ++ b) = nzc a + nzc b := by
  induction a with
  | nil => simp [nzc]
  | cons x a ih => simp only [List.cons_append, nzc, ih]; omega
theorem wsum_append (a b : List Nat) : wsum (a ++ b) = wsum a + wsum b := by
  induction a with
  | nil => simp [wsum]
  | cons x a ih => simp only [List.cons_append, wsum, ih]; omega
theorem take_last {l : List Nat} {i x : Nat} (h : l[i]? = some x) : l.take (i + 1) = l.take i ++ [x] := by
  obtain ⟨hi, he⟩ := List.getElem?_eq_some_iff.1 h
  rw [List.take_succ_eq_append_getElem hi, he]
theorem nzc_take {l : List Nat} {i x : Nat} (h : l[i]? = some x) : nzc (l.take (i + 1)) = nzc (l.take i) + (if x = 0 then 0 else 1) := by
  rw [take_last h, nzc_append]; simp [nzc]
theorem wsum_take {l : List Nat} {i x : Nat} (h : l[i]? = some x) : wsum (l.take (i + 1)) = wsum (l.take i) + (if x = 0 then 0 else 2 ^ (15 - x)) := by
  rw [take_last h, wsum_append]; simp [wsum]
theorem last_take {l : List Nat} {i x : Nat} (h : l[i]? = some x) : lastL (l.take (i + 1)) = if x = 0 then lastL (l.take i) else x := by
  unfold lastL; rw [take_last h, List.foldl_append]; rfl
theorem nzc_all (l : List Nat) (h : ∀ x ∈ l, x ≤ 15) : nzc l = allN l 15 := by
  induction l with
  | nil => rfl
  | cons x l ih =>
    rw [allN_cons, nzc, ih (fun y hy => h y (by simp [hy]))]
    have := h x (by simp)
    by_cases hx : x = 0
    · rw [if_pos hx, if_neg (by omega)]; omega
    · rw [if_neg hx, if_pos (by omega)]; omega
theorem nzc_le (l : List Nat) : nzc l ≤ l.length := by
  induction l with
  | nil => simp [nzc]
  | cons x l ih => simp only [nzc, List.length_cons]; split <;> omega
theorem wsum_le (l : List Nat) : wsum l ≤ l.length * 32768 := by
  induction l with
  | nil => simp [wsum]
  | cons x l ih =>
    simp only [wsum, List.length_cons]
    have : 2 ^ (15 - x) ≤ 2 ^ 15 := Nat.pow_le_pow_right (by decide) (by omega)
    split <;> omega
theorem last_one (l : List Nat) (h : nzc l = 1) : lastL l = 1 ↔ cnt l 1 = 1 := by
  have hz : ∀ (l : List Nat) (a : Nat), nzc l = 0 → l.foldl (fun a x => if x = 0 then a else x) a = a ∧ cnt l 1 = 0 := by
    intro l
    induction l with
    | nil => intro a _; exact ⟨rfl, rfl⟩
    | cons x l ih =>
      intro a ha
      simp only [nzc] at ha
      have hx : x = 0 := by
        by_cases hx : x = 0
        · exact hx
        · rw [if_neg hx] at ha; omega
      subst hx
      obtain ⟨h1, h2⟩ := ih a (by simpa using ha)
      simp only [List.foldl_cons, if_true, cnt]
      exact ⟨h1, by rw [h2]; rfl⟩
  have hg : ∀ (l : List Nat) (a : Nat), nzc l = 1 → (l.foldl (fun a x => if x = 0 then a else x) a = 1 ↔ cnt l 1 = 1) := by
    intro l
    induction l with
    | nil => intro a ha; simp [nzc] at ha
    | cons x l ih =>
      intro a ha
      simp only [nzc] at ha
      by_cases hx : x = 0
      · subst hx
        simp only [List.foldl_cons, if_true, cnt]
        rw [ih a (by simpa using ha), if_neg (by decide), Nat.zero_add]
      · rw [if_neg hx] at ha
        obtain ⟨h1, h2⟩ := hz l x (by omega)
        simp only [List.foldl_cons, if_neg hx, cnt]
        rw [h1, h2]
        by_cases h1x : x = 1
        · simp [h1x]
        · simp [h1x]
  exact hg l 0 h

set_option maxRecDepth 2000000 in
set_option maxHeartbeats 3200000 in
theorem rkind_any (a : Option Addr) (c : Nat) (l : List Nat) (w : World) (hs : SlOf U8 1 w a l) (hl : l.length ≤ 9223372036854775807) (h8 : ∀ x ∈ l, x < 256) :
    Calls Tryz.prog 67 #[.slice a l.length c] w fun e w' => e = .returned (.int .u8 (kindN l : Int)) ∧ Fr [] w w' := by
  have HS := Lib.hid hs
  have H8 := Lib.hid h8
  have i0 : (l.length : Int) ≤ 9223372036854775807 := by omega
  clear hs h8 hl
  by_cases hbig : 320 < l.length
  · have HK := Lib.hid (show kindN l = 5 by unfold kindN badL; rw [decide_eq_true hbig]; rfl)
    have i1 : (320 : Int) < (l.length : Int) := by omega
    clear hbig
    go_enter Tryz.func67, Tryz.ntmps67
    go_wp2_with fail
    go_ret
    rw [HK.out]
    exact ⟨rfl, Fr.refl _ _⟩
  · have i1 : (l.length : Int) ≤ 320 := by omega
    go_enter Tryz.func67, Tryz.ntmps67
    go_wp2_with fail
    go_loop [3, 4, 5, 6] (fun wt_ al la i => ∃ j : Nat, j ≤ l.length ∧ i = .int .i64 (j : Int) ∧ wt_ = .int .i64 (wsum (l.take j) : Int) ∧ al = .int .i64 (nzc (l.take j) : Int) ∧ la = .int .u8 (lastL (l.take j) : Int) ∧ ∀ x ∈ l.take j, x ≤ 15) (fun _ _ _ i => l.length - (intOf i).toNat)
    case atStart => exact ⟨0, Nat.zero_le _, rfl, rfl, rfl, rfl, by simp⟩
    case round =>
      obtain ⟨j, hj, rfl, rfl, rfl, rfl, h15⟩ := hrel
      have hwl := wsum_le (l.take j)
      have hnl := nzc_le (l.take j)
      rw [List.length_take, Nat.min_eq_left hj] at hwl hnl
      by_cases hjl : j < l.length
      · obtain ⟨x, hx⟩ : ∃ x, l[j]? = some x := ⟨l[j], List.getElem?_eq_getElem hjl⟩
        obtain ⟨b, o, rfl, hbl, hcell⟩ := HS.out (by intro h; rw [h] at hx; simp at hx)
        have d0 := hcell j x hx 0 (.int .u8 (x : Int)) rfl
        rw [Nat.mul_one, Nat.add_zero] at d0
        have hx8 := H8.out x (List.mem_of_getElem? hx)
        have hxi : (x : Int) ≤ 255 := by omega
        have hji : (j : Int) < (l.length : Int) := by omega
        have hw1 := wsum_take hx
        have hn1 := nzc_take hx
        have hl1 := last_take hx
        obtain ⟨W, hW⟩ : ∃ W, wsum (l.take j) = W := ⟨_, rfl⟩
        obtain ⟨Nn, hN⟩ : ∃ N, nzc (l.take j) = N := ⟨_, rfl⟩
        obtain ⟨La, hL⟩ : ∃ L, lastL (l.take j) = L := ⟨_, rfl⟩
        rw [hW] at hwl hw1 ⊢
        rw [hN] at hnl hn1 ⊢
        rw [hL] at hl1 ⊢
        have hWi : (W : Int) ≤ 10485760 := by omega
        have hNi : (Nn : Int) ≤ 320 := by omega
        by_cases h15x : 15 < x
        · have HK := Lib.hid (show kindN l = 5 by
            unfold kindN badL
            rw [show (l.any fun x => decide (15 < x)) = true from List.any_eq_true.2 ⟨x, List.mem_of_getElem? hx, decide_eq_true h15x⟩]
            simp)
          have hxj : (15 : Int) < (x : Int) := by omega
          clear hw1 hn1 hl1 hW hN hL hwl hnl h15x hx8 hcell h15 hx hbl
          go_wp2_with fail
          go_ret
          rw [HK.out]
          exact ⟨rfl, Fr.refl _ _⟩
        · have hxj : (x : Int) ≤ 15 := by omega
          have HM := Lib.hid (fun y (hy : y ∈ l.take (j + 1)) => by
            rw [take_last hx] at hy
            rcases List.mem_append.1 hy with hy | hy
            · exact h15 y hy
            · simp at hy; omega : ∀ y ∈ l.take (j + 1), y ≤ 15)
          by_cases hx0 : x = 0
          · subst hx0
            rw [if_pos rfl] at hw1 hn1 hl1
            have HR := Lib.hid (And.intro hw1 (And.intro hn1 hl1))
            clear hw1 hn1 hl1 hW hN hL hwl hnl h15x hx8 hcell h15 hx hbl
            go_wp2_with fail
            go_round
            case rel => exact ⟨j + 1, by omega, by go_num, by rw [HR.out.1]; rfl, by rw [HR.out.2.1]; rfl, by rw [HR.out.2.2], HM.out⟩
            case measure => simp [intOf]; omega
          · rw [if_neg hx0] at hw1 hn1 hl1
            have HR := Lib.hid (And.intro hw1 (And.intro hn1 hl1))
            have hx1 : 1 ≤ (x : Int) := by omega
            clear hw1 hn1 hl1 hW hN hL hwl hnl h15x hx8 hcell h15 hx hbl
            go_wp2_with fail
            go_loop [7, 8] (fun v k => ∃ d : Nat, d ≤ 15 - x ∧ k = .int .i64 ((x + d : Nat) : Int) ∧ v = .int .i64 ((2 ^ d : Nat) : Int)) (fun _ k => 15 - (intOf k).toNat)
            case atStart => exact ⟨0, Nat.zero_le _, rfl, rfl⟩
            case round =>
              obtain ⟨d, hd, rfl, rfl⟩ := hrel
              have hp15 : 2 ^ d ≤ 2 ^ 15 := Nat.pow_le_pow_right (by decide) (by omega)
              have hps : 2 ^ (d + 1) = 2 * 2 ^ d := Nat.pow_succ'
              obtain ⟨p, hp⟩ : ∃ p, 2 ^ d = p := ⟨_, rfl⟩
              obtain ⟨q, hq⟩ : ∃ q, x + d = q := ⟨_, rfl⟩
              rw [hp] at hp15 hps ⊢
              rw [hq]
              have hpi : (p : Int) ≤ 32768 := by omega
              by_cases hq15 : q < 15
              · have hqi : (q : Int) < 15 := by omega
                have HP := Lib.hid (And.intro hps hq)
                clear hps hp hp15 hq hd
                go_wp2_with fail
                go_round
                case rel =>
                  refine ⟨d + 1, by have := HP.out.2; omega, ?_, ?_⟩
                  · rw [← Nat.add_assoc, HP.out.2]; go_num
                  · rw [HP.out.1]; go_num
                case measure => simp [intOf]; omega
              · have hqi : (15 : Int) ≤ (q : Int) := by omega
                have hde : d = 15 - x := by omega
                have HP := Lib.hid (show 2 ^ (15 - x) = p by rw [← hde]; exact hp)
                clear hps hp hp15 hq hd hde
                go_wp2_with fail
                go_round
                case rel => exact ⟨j + 1, by omega, by go_num, by rw [HR.out.1, HP.out]; go_num, by rw [HR.out.2.1]; go_num, by rw [HR.out.2.2], HM.out⟩
                case measure => simp [intOf]; omega
      · have hje : j = l.length := by omega
        subst hje
        rw [List.take_length] at hwl hnl h15 ⊢
        have hbad : badL l = false := by
          unfold badL
          rw [Bool.or_eq_false_iff, decide_eq_false_iff_not]
          exact ⟨hbig, List.any_eq_false.2 fun x hx => by have := h15 x hx; simp; omega⟩
        have hk1 : kindN l = if allN l 15 = 0 then 0 else if 32768 < wt l 15 then 4 else if wt l 15 = 32768 then 2 else if allN l 15 = 1 ∧ cnt l 1 = 1 then 1 else 3 := by unfold kindN; rw [hbad]; rfl
        rw [← wsum_eq l h15, ← nzc_all l h15] at hk1
        have hlo := last_one l
        obtain ⟨z, hz⟩ : ∃ z, wsum l = z := ⟨_, rfl⟩
        obtain ⟨y, hy⟩ : ∃ y, nzc l = y := ⟨_, rfl⟩
        obtain ⟨q, hq⟩ : ∃ q, lastL l = q := ⟨_, rfl⟩
        rw [hz] at hk1 hwl ⊢
        rw [hy] at hk1 hnl hlo ⊢
        rw [hq] at hlo ⊢
        have hzi : (z : Int) ≤ 10485760 := by omega
        have hyi : (y : Int) ≤ 320 := by omega
        clear hz hy hq hwl hnl h15 hbad hbig
        by_cases g1 : y = 0
        · subst g1
          have HKK := Lib.hid (show kindN l = 0 by rw [hk1]; rfl)
          clear hk1 hlo
          go_wp2_with fail
          go_ret
          rw [HKK.out]
          exact ⟨rfl, Fr.refl _ _⟩
        · have hy0 : ¬ (y : Int) = 0 := by omega
          rw [if_neg g1] at hk1
          by_cases g2 : 32768 < z
          · have HKK := Lib.hid (show kindN l = 4 by rw [hk1, if_pos g2])
            have hz1 : (32769 : Int) ≤ (z : Int) := by omega
            clear hk1 hlo g1 g2
            go_wp2_with fail
            go_ret
            rw [HKK.out]
            exact ⟨rfl, Fr.refl _ _⟩
          · rw [if_neg g2] at hk1
            by_cases g3 : z = 32768
            · subst g3
              have HKK := Lib.hid (show kindN l = 2 by rw [hk1, if_pos rfl])
              clear hk1 hlo g1 g2
              go_wp2_with fail
              go_ret
              rw [HKK.out]
              exact ⟨rfl, Fr.refl _ _⟩
            · have hz1 : (z : Int) ≤ 32767 := by omega
              rw [if_neg g3] at hk1
              by_cases g4 : y = 1
              · subst g4
                by_cases g5 : q = 1
                · subst g5
                  have HKK := Lib.hid (show kindN l = 1 by rw [hk1, if_pos ⟨rfl, (hlo rfl).1 rfl⟩])
                  clear hk1 hlo g1 g2 g3
                  go_wp2_with fail
                  go_ret
                  rw [HKK.out]
                  exact ⟨rfl, Fr.refl _ _⟩
                · have HKK := Lib.hid (show kindN l = 3 by rw [hk1, if_neg (fun e => g5 ((hlo rfl).2 e.2))])
                  have g6 : ¬ (q : Int) = 1 := by omega
                  clear hk1 hlo g1 g2 g3 g5
                  go_wp2_with fail
                  go_ret
                  rw [HKK.out]
                  exact ⟨rfl, Fr.refl _ _⟩
              · have HKK := Lib.hid (show kindN l = 3 by rw [hk1, if_neg (fun e => g4 e.1)])
                have g6 : ¬ (y : Int) = 1 := by omega
                clear hk1 hlo g1 g2 g3 g4
                go_wp2_with fail
                go_ret
                rw [HKK.out]
                exact ⟨rfl, Fr.refl _ _⟩
end Go.Proofs.YtciejmlhdmjajaaGreat
namespace Go.Proofs.YtciejmlhdmjajaaGreat
open Go.RowKit
set_option linter.unusedVariables false
set_option linter.unusedSimpArgs false

set_option maxRecDepth 2000000 in
set_option maxHeartbeats 1600000 in
theorem rcodes_bad (a : Option Addr) (c : Nat) (l : List Nat) (w : World) (hs : SlOf U8 1 w a l) (hl : l.length ≤ 9223372036854775807) (h8 : ∀ x ∈ l, x < 256) (er : Nat) (hk : kindN l = 5 ∧ er = 2 ∨ kindN l = 4 ∧ er = 7) :
    Calls Tryz.prog 48 #[.slice a l.length c] w fun e w' => e = .returned (.tuple #[.slice none 0 0, .int .i64 (er : Int)]) ∧ Fr [] w w' := by
  have HT := Lib.hid (rkind_any a c l w hs hl h8)
  clear hs hl h8
  go_enter Tryz.func48, Tryz.ntmps48
  go_wp2_with fail
  refine HT.out.mono ?_
  rintro e w1 ⟨rfl, f1⟩
  clear HT
  have HF := Lib.hid f1
  clear f1
  rcases hk with ⟨hk, rfl⟩ | ⟨hk, rfl⟩
  · rw [hk]
    clear hk
    go_wp2_with fail
    go_ret2
    exact ⟨rfl, HF.out⟩
  · rw [hk]
    clear hk
    go_wp2_with fail
    go_ret2
    exact ⟨rfl, HF.out⟩

/-- Behind all codes shorter than n, and of those that are as long the first i. -/
def codeU (l : List Nat) (n i s : Nat) : Nat × Nat := if 0 < l.getD s 0 ∧ (l.getD s 0 < n ∨ l.getD s 0 = n ∧ s < i) then (codeN l s, l.getD s 0) else (0, 0)
theorem codeU_skip (l : List Nat) (n i x s : Nat) (hx : l[i]? = some x) (hn : x ≠ n) : codeU l n (i + 1) s = codeU l n i s := by
  unfold codeU
  by_cases hs : s = i
  · subst hs
    rw [getD_of hx]
    by_cases h : 0 < x ∧ (x < n ∨ x = n ∧ s < s + 1)
    · rw [if_pos h, if_pos (by omega)]
    · rw [if_neg h, if_neg (by omega)]
  · by_cases h : 0 < l.getD s 0 ∧ (l.getD s 0 < n ∨ l.getD s 0 = n ∧ s < i + 1)
    · rw [if_pos h, if_pos (by omega)]
    · rw [if_neg h, if_neg (by omega)]
theorem codeU_hit (l : List Nat) (n i : Nat) (hx : l[i]? = some n) (hn : 0 < n) : codeU l n (i + 1) i = (codeN l i, n) ∧ ∀ s, s ≠ i → codeU l n (i + 1) s = codeU l n i s := by
  unfold codeU
  refine ⟨by rw [getD_of hx, if_pos (by omega)], fun s hs => ?_⟩
  by_cases h : 0 < l.getD s 0 ∧ (l.getD s 0 < n ∨ l.getD s 0 = n ∧ s < i + 1)
  · rw [if_pos h, if_pos (by omega)]
  · rw [if_neg h, if_neg (by omega)]
theorem codeU_turn (l : List Nat) (n s : Nat) (hs : s < l.length) : codeU l (n + 1) 0 s = codeU l n l.length s := by
  unfold codeU
  by_cases h : 0 < l.getD s 0 ∧ (l.getD s 0 < n + 1 ∨ l.getD s 0 = n + 1 ∧ s < 0)
  · rw [if_pos h, if_pos (by omega)]
  · rw [if_neg h, if_neg (by omega)]
theorem codeU_end (l : List Nat) (h : ∀ x ∈ l, x ≤ 15) (s : Nat) : codeU l 16 0 s = codeP l s := by
  have := getD_le h s
  unfold codeU codeP
  by_cases h0 : l.getD s 0 = 0
  · rw [if_neg (by omega), if_pos h0]
  · rw [if_pos (by omega), if_neg h0]

set_option maxRecDepth 2000000 in
set_option maxHeartbeats 3200000 in
theorem rcodes_any (a : Option Addr) (c : Nat) (l : List Nat) (w : World) (hs : SlOf U8 1 w a l) (hl : l.length ≤ 9223372036854775807) (h8 : ∀ x ∈ l, x < 256) (hk5 : kindN l ≠ 5) (hk4 : kindN l ≠ 4) :
    Calls Tryz.prog 48 #[.slice a l.length c] w fun e w' => ∃ g, e = .returned (.tuple #[.slice (some ⟨g, 0, none⟩) l.length l.length, .int .i64 0]) ∧ w.heap.size ≤ g ∧ Prow Cd 99 w' g l.length (codeP l) ∧ Fr [] w w' := by
  have hbad := kind_le hk5
  have hw := kind_wt hk5 hk4
  obtain ⟨hlen, hle⟩ := kind_ok hbad
  have HT := Lib.hid (rkind_any a c l w hs hl h8)
  have HS := Lib.hid hs
  have HFI := Lib.hid (Fine.mk hle hw)
  have i1 : (l.length : Int) ≤ 320 := by omega
  clear hs hl h8 hbad hw hlen hle
  go_enter Tryz.func48, Tryz.ntmps48
  go_wp2_with fail
  refine HT.out.mono ?_
  rintro e w1 ⟨rfl, f1⟩
  clear HT
  have HF := Lib.hid f1
  clear f1
  obtain ⟨q, hq⟩ : ∃ q, kindN l = q := ⟨_, rfl⟩
  rw [hq] at hk5 hk4 ⊢
  have g5 : ¬ (q : Int) = 5 := by omega
  have g4 : ¬ (q : Int) = 4 := by omega
  have hmk := run_make_codes l.length (by omega) w1
  have hg := HF.out.size
  have HN := Lib.hid (And.intro (show Prow Cd 99 (w1.alloc (.cells ((List.range l.length).flatMap fun j => Cd ((fun _ => (0, 0)) j)).toArray 99)) w1.heap.size l.length (fun _ => (0, 0)) from new_of w1 _) (HF.out.trans (Fr.alloc [] w1 (.cells ((List.range l.length).flatMap fun j => Cd ((fun _ => (0, 0)) j)).toArray 99))).below)
  clear hq hk5 hk4
  go_wp2_with fail
  obtain ⟨g, hgg⟩ : ∃ g, w1.heap.size = g := ⟨_, rfl⟩
  rw [hgg] at HN hg ⊢
  clear hgg hmk
  go_loopw [5, 6, 7, 8] (fun nx sz fi n wr => ∃ (m next size : Nat) (first : Bool), m ≤ 15 ∧ n = .int .i64 ((m + 1 : Nat) : Int) ∧ nx = .int .u32 (next : Int) ∧ sz = .int .i64 (size : Int) ∧ fi = .bool first ∧ RefSt l (m + 1) 0 next size first ∧ Prow Cd 99 wr g l.length (codeU l (m + 1) 0) ∧ Below w.heap.size w wr) (fun _ _ _ n _ => 17 - (intOf n).toNat)
  case atStart =>
    refine ⟨0, 0, 0, true, by omega, rfl, rfl, rfl, rfl, ref_start l, ?_, HN.out.2⟩
    refine HN.out.1.congr fun s hs => ?_
    unfold codeU
    rw [if_neg (by omega)]
  case round =>
    obtain ⟨m, next, size, first, hm, rfl, rfl, rfl, rfl, hst, hP, hB⟩ := hrel
    by_cases hm15 : m < 15
    · have hmi : (m : Int) < 15 := by omega
      have HR := Lib.hid (And.intro hst (And.intro hP hB))
      clear hst hP hB
      go_wp2_with fail
      go_loopw [5, 6, 7, 9] (fun nx sz fi i wr => ∃ (j next size : Nat) (first : Bool), j ≤ l.length ∧ i = .int .i64 (j : Int) ∧ nx = .int .u32 (next : Int) ∧ sz = .int .i64 (size : Int) ∧ fi = .bool first ∧ RefSt l (m + 1) j next size first ∧ Prow Cd 99 wr g l.length (codeU l (m + 1) j) ∧ Below w.heap.size w wr) (fun _ _ _ i _ => l.length - (intOf i).toNat)
      case atStart => exact ⟨0, next, size, first, Nat.zero_le _, rfl, rfl, rfl, rfl, HR.out.1, HR.out.2.1, HR.out.2.2⟩
      case round =>
        clear HR
        obtain ⟨j, next, size, first, hj, rfl, rfl, rfl, rfl, hst, hP, hB⟩ := hrel
        by_cases hjl : j < l.length
        · obtain ⟨x, hx⟩ : ∃ x, l[j]? = some x := ⟨l[j], List.getElem?_eq_getElem hjl⟩
          obtain ⟨b, o, rfl, hbl, hcell⟩ := (HS.out.below hB) (by intro h; rw [h] at hx; simp at hx)
          have d0 := hcell j x hx 0 (.int .u8 (x : Int)) rfl
          rw [Nat.mul_one, Nat.add_zero] at d0
          have hx15 := HFI.out.le x (List.mem_of_getElem? hx)
          have hxi : (x : Int) ≤ 15 := by omega
          have hji : (j : Int) < (l.length : Int) := by omega
          by_cases hxm : x = m + 1
          · subst hxm
            obtain ⟨hsz, hco, hst2⟩ := ref_hit hst hx
            have hlt := code_lt HFI.out hx (by omega)
            have hp15 : 2 ^ (m + 1) ≤ 2 ^ 15 := Nat.pow_le_pow_right (by decide) hx15
            have e0 := hP.cell cd_len j 0 hjl (by omega)
            have e1 := hP.cell cd_len j 1 hjl (by omega)
            have g0 := free_of hP (j * 2)
            have g1 := free_of hP (j * 2 + 1)
            have hU0 : codeU l (m + 1) j j = (0, 0) := by unfold codeU; rw [getD_of hx, if_neg (by omega)]
            rw [hU0] at e0 e1
            simp only [Cd, List.getElem?_cons_zero, List.getElem?_cons_succ, Nat.add_zero] at e0 e1
            obtain ⟨cn, hcn⟩ : ∃ cn, codeN l j = cn := ⟨_, rfl⟩
            rw [hcn] at hco hst2 hlt
            have hcni : cn ≤ 32768 := by omega
            obtain ⟨st, hst0⟩ : ∃ st, (if first = true then next else next + 1) = st := ⟨_, rfl⟩
            rw [hst0] at hco
            have hstle : st ≤ cn := by
              rw [← hco]; exact Nat.le_mul_of_pos_right _ (Nat.pow_pos (by decide))
            have hsti : (st : Int) ≤ 32768 := by omega
            have hszi : (size : Int) ≤ ((m + 1 : Nat) : Int) := by omega
            have hsz16 : (size : Int) ≤ 15 := by omega
            have HR := Lib.hid (And.intro hP (And.intro hB (And.intro hst2 (And.intro hx (And.intro hcn (And.intro hco (And.intro hsz hcni)))))))
            have hmne : ((((m + 1 : Nat) : Int)) != ((m + 1 : Nat) : Int)) = false := by simp
            clear hst hP hB hst2 hx hcell hx15 hlt hp15 hU0 hcn hco hstle hsz hbl hcni
            cases first with
            | true =>
              simp only [if_true] at hst0
              subst hst0
              go_wp2_with fail
              go_loop [5, 6] (fun nx sz => ∃ d : Nat, size + d ≤ m + 1 ∧ sz = .int .i64 ((size + d : Nat) : Int) ∧ nx = .int .u32 ((next * 2 ^ d : Nat) : Int)) (fun _ sz => m + 1 - (intOf sz).toNat)
              case atStart => exact ⟨0, by have := HR.out.2.2.2.2.2.2.1; omega, rfl, by rw [Nat.pow_zero, Nat.mul_one]⟩
              case round =>
                obtain ⟨d, hd, rfl, rfl⟩ := hrel
                have hco := HR.out.2.2.2.2.2.1
                have hcn8 := HR.out.2.2.2.2.2.2.2
                have hle1 : next * 2 ^ d ≤ next * 2 ^ (m + 1 - size) := Nat.mul_le_mul_left _ (Nat.pow_le_pow_right (by decide) (by omega))
                have hps : next * 2 ^ (d + 1) = 2 * (next * 2 ^ d) := by rw [Nat.pow_succ', Nat.mul_left_comm]
                obtain ⟨p, hp⟩ : ∃ p, next * 2 ^ d = p := ⟨_, rfl⟩
                obtain ⟨zd, hzd⟩ : ∃ zd, size + d = zd := ⟨_, rfl⟩
                rw [hp] at hps hle1 ⊢
                rw [hzd] at hd ⊢
                have hpi : (p : Int) ≤ 32768 := by omega
                by_cases hlt : zd < m + 1
                · have hle2 : next * 2 ^ (d + 1) ≤ next * 2 ^ (m + 1 - size) := Nat.mul_le_mul_left _ (Nat.pow_le_pow_right (by decide) (by omega))
                  have hzi : (zd : Int) < ((m + 1 : Nat) : Int) := by omega
                  have hp2 : 2 * (p : Int) ≤ 32768 := by omega
                  have HP := Lib.hid (And.intro hps hzd)
                  clear hps hp hzd hle1 hle2 hco hcn8
                  go_wp2_with fail
                  go_round
                  case rel =>
                    refine ⟨d + 1, by have := HP.out.2; omega, ?_, ?_⟩
                    · rw [← Nat.add_assoc, HP.out.2]; go_num
                    · rw [HP.out.1]; go_num
                  case measure => simp [intOf]; omega
                · have hde : d = m + 1 - size := by omega
                  have hpc : p = cn := by rw [← hp, hde, hco]
                  have hzi : ((m + 1 : Nat) : Int) ≤ (zd : Int) := by omega
                  subst hpc
                  have hze : zd = m + 1 := by omega
                  subst hze
                  clear hps hp hzd hle1 hco hcn8 hde hzi
                  go_wp2_with fail
                  go_roundw
                  case rel =>
                    obtain ⟨hP, hB, hst2, hx, hcn, _⟩ := HR.out
                    refine ⟨j + 1, _, m + 1, false, by omega, by go_num, rfl, rfl, rfl, hst2, ?_, ?_⟩
                    · obtain ⟨u1, u2⟩ := codeU_hit l (m + 1) j hx (by omega)
                      exact hP.set_ (G := codeU l (m + 1) (j + 1)) cd_len j hjl _ _ (fun s hs hsj => u2 s hsj) (by rw [u1, hcn]; rfl)
                    · exact (Fr.setCell _ g _ _).out ((Fr.setCell _ g _ _).out hB (by simp; omega)) (by simp; omega)
                  case measure => simp [intOf]; omega
            | false =>
              simp only [Bool.false_eq_true, if_false] at hst0
              have hn1 : (next : Int) + 1 = (st : Int) := by omega
              have hni : (next : Int) ≤ 32768 := by omega
              clear hst0
              go_wp2_with fail
              go_loop [5, 6] (fun nx sz => ∃ d : Nat, size + d ≤ m + 1 ∧ sz = .int .i64 ((size + d : Nat) : Int) ∧ nx = .int .u32 ((st * 2 ^ d : Nat) : Int)) (fun _ sz => m + 1 - (intOf sz).toNat)
              case atStart => exact ⟨0, by have := HR.out.2.2.2.2.2.2.1; omega, rfl, by rw [Nat.pow_zero, Nat.mul_one]⟩
              case round =>
                obtain ⟨d, hd, rfl, rfl⟩ := hrel
                have hco := HR.out.2.2.2.2.2.1
                have hcn8 := HR.out.2.2.2.2.2.2.2
                have hle1 : st * 2 ^ d ≤ st * 2 ^ (m + 1 - size) := Nat.mul_le_mul_left _ (Nat.pow_le_pow_right (by decide) (by omega))
                have hps : st * 2 ^ (d + 1) = 2 * (st * 2 ^ d) := by rw [Nat.pow_succ', Nat.mul_left_comm]
                obtain ⟨p, hp⟩ : ∃ p, st * 2 ^ d = p := ⟨_, rfl⟩
                obtain ⟨zd, hzd⟩ : ∃ zd, size + d = zd := ⟨_, rfl⟩
                rw [hp] at hps hle1 ⊢
                rw [hzd] at hd ⊢
                have hpi : (p : Int) ≤ 32768 := by omega
                by_cases hlt : zd < m + 1
                · have hle2 : st * 2 ^ (d + 1) ≤ st * 2 ^ (m + 1 - size) := Nat.mul_le_mul_left _ (Nat.pow_le_pow_right (by decide) (by omega))
                  have hzi : (zd : Int) < ((m + 1 : Nat) : Int) := by omega
                  have hp2 : 2 * (p : Int) ≤ 32768 := by omega
                  have HP := Lib.hid (And.intro hps hzd)
                  clear hps hp hzd hle1 hle2 hco hcn8
                  go_wp2_with fail
                  go_round
                  case rel =>
                    refine ⟨d + 1, by have := HP.out.2; omega, ?_, ?_⟩
                    · rw [← Nat.add_assoc, HP.out.2]; go_num
                    · rw [HP.out.1]; go_num
                  case measure => simp [intOf]; omega
                · have hde : d = m + 1 - size := by omega
                  have hpc : p = cn := by rw [← hp, hde, hco]
                  have hzi : ((m + 1 : Nat) : Int) ≤ (zd : Int) := by omega
                  subst hpc
                  have hze : zd = m + 1 := by omega
                  subst hze
                  clear hps hp hzd hle1 hco hcn8 hde hzi
                  go_wp2_with fail
                  go_roundw
                  case rel =>
                    obtain ⟨hP, hB, hst2, hx, hcn, _⟩ := HR.out
                    refine ⟨j + 1, _, m + 1, false, by omega, by go_num, rfl, rfl, rfl, hst2, ?_, ?_⟩
                    · obtain ⟨u1, u2⟩ := codeU_hit l (m + 1) j hx (by omega)
                      exact hP.set_ (G := codeU l (m + 1) (j + 1)) cd_len j hjl _ _ (fun s hs hsj => u2 s hsj) (by rw [u1, hcn]; rfl)
                    · exact (Fr.setCell _ g _ _).out ((Fr.setCell _ g _ _).out hB (by simp; omega)) (by simp; omega)
                  case measure => simp [intOf]; omega
          · have hxne : ((x : Int) == ((m + 1 : Nat) : Int)) = false := by simp; omega
            have hxne2 : ((x : Int) != ((m + 1 : Nat) : Int)) = true := by simp; omega
            have hxne3 : ¬ (x : Int) = ((m + 1 : Nat) : Int) := by omega
            have HR := Lib.hid (And.intro hst (And.intro hP (And.intro hB hx)))
            clear hst hP hB hx hcell hx15 hbl
            go_wp2_with fail
            go_roundw
            case rel =>
              refine ⟨j + 1, next, size, first, by omega, by go_num, rfl, rfl, rfl, ref_skip HR.out.1 HR.out.2.2.2 hxm, ?_, HR.out.2.2.1⟩
              exact HR.out.2.1.congr fun s hs => codeU_skip l (m + 1) j x s HR.out.2.2.2 hxm
            case measure => simp [intOf]; omega
        · have hje : j = l.length := by omega
          subst hje
          have HR := Lib.hid (And.intro hst (And.intro hP hB))
          clear hst hP hB
          go_wp2_with fail
          go_roundw
          case rel =>
            refine ⟨m + 1, next, size, first, by omega, by go_num, rfl, rfl, rfl, ref_turn HR.out.1, ?_, HR.out.2.2⟩
            exact HR.out.2.1.congr fun s hs => codeU_turn l (m + 1) s hs
          case measure => simp [intOf]; omega
    · have hme : m = 15 := by omega
      subst hme
      have HR := Lib.hid (And.intro hP hB)
      clear hst hP hB
      go_wp2_with fail
      go_ret2
      exact ⟨g, rfl, hg, HR.out.1.congr fun s hs => (codeU_end l HFI.out.le s).symm, Fr.of_below HR.out.2⟩
end Go.Proofs.YtciejmlhdmjajaaGreat
namespace Go.Proofs.YtciejmlhdmjajaaGreat
open Go.RowKit
set_option linter.unusedVariables false
set_option linter.unusedSimpArgs false

set_option maxRecDepth 100000 in
set_option maxHeartbeats 3200000 in
theorem rsymbols_ok (rb : Nat) (a : Option Addr) (c : Nat) (l : List Tok) (aL aD : Option Addr) (cL cD : Nat) (lit dist : List Nat) (D : Nat × Nat) (M : List Nat) (w : World) (hs : SlOf Tok.enc Tok.sz w a l) (hl : l.length ≤ 1000) (hok : ∀ t ∈ l, t.ok) (hmay : ∀ t ∈ l, t.may = true)
    (hL : SlOf U8 1 w aL lit) (hD : SlOf U8 1 w aD dist) (h8 : ∀ x ∈ lit, x < 256) (k8 : ∀ x ∈ dist, x < 256) (hll : lit.length = 286 ∨ lit.length = 288) (hdl : dist.length = 30) (hkL : kindN lit ≠ 5 ∧ kindN lit ≠ 4) (hkD : kindN dist ≠ 5 ∧ kindN dist ≠ 4)
    (h : RfI rb D M w) (hDL : D.2 ≤ 10000000) :
    Calls Tryz.prog 32 #[.pointer (some ⟨rb, 0, none⟩), .slice a l.length c, .agg #[.slice aL lit.length cL, .slice aD dist.length cD]] w fun e w' => e = .returned (.tuple #[]) ∧ RfTo rb (puts D (symsP lit dist (symsL l))) M w w' := by
  have HB := Lib.hid (And.intro hs (And.intro hl (And.intro hok (And.intro hmay (And.intro hL (And.intro hD (And.intro h8 (And.intro k8 (And.intro hll hdl)))))))))
  have HK := Lib.hid (And.intro hkL (And.intro hkD h))
  have hSl := symsL_len l
  have hSo := symsL_ok hmay fun t ht => (hok t ht).1
  obtain ⟨S, hS⟩ : ∃ S, symsL l = S := ⟨_, rfl⟩
  have hlb : lit.length ≤ 300 ∧ dist.length ≤ 300 := by omega
  rw [hS] at hSl hSo ⊢
  have HS := Lib.hid (And.intro hSo hSl)
  have HSe := Lib.hid hS
  have hSi : (S.length : Int) ≤ 2001 := by omega
  clear hs hok hmay hL hD h8 k8 hkL hkD h hS hSo hdl hll
  go_enter Tryz.func32, Tryz.ntmps32
  go_wp2_with fail
  obtain ⟨V, hV⟩ : ∃ V, w.alloc (.cells #[.slice aL lit.length cL, .slice aD dist.length cD] 45) = V := ⟨_, rfl⟩
  have fV : Fr [] w V := by rw [← hV]; exact Fr.alloc _ _ _
  have xV : V.heap[w.heap.size]? = some (.cells #[.slice aL lit.length cL, .slice aD dist.length cD] 45 (0, 0)) := by rw [← hV]; exact alloc_last _ _
  have FV := Lib.hid (And.intro fV xV)
  rw [hV]
  clear hV
  refine (rcodes_any aL cL lit V (HB.out.2.2.2.2.1.fr0 fV) (by omega) HB.out.2.2.2.2.2.2.1 HK.out.1.1 HK.out.1.2).mono ?_
  rintro e w1 ⟨gl, rfl, hgl, hPl, f1⟩
  have c1 := cell_of (f1.blk xV (by simp)) 1
  simp at c1
  have H1 := Lib.hid (And.intro (fV.trans f1) (And.intro hgl hPl))
  clear hgl hPl f1 xV fV
  go_wp2_with fail
  refine (rcodes_any aD cD dist w1 (HB.out.2.2.2.2.2.1.fr0 H1.out.1) (by omega) HB.out.2.2.2.2.2.2.2.1 HK.out.2.1.1 HK.out.2.1.2).mono ?_
  rintro e w2 ⟨gd, rfl, hgd, hPd, f2⟩
  have H2 := Lib.hid (And.intro (H1.out.1.trans f2) (And.intro (f2.blk (show w1.heap[gl]? = _ from H1.out.2.2) (by simp)) (And.intro hgd hPd)))
  clear hgd hPd f2 c1
  go_wp2_with fail
  refine (refSyms_ok a c l w2 (HB.out.1.fr0 H2.out.1) (by have := HB.out.2.1; omega) HB.out.2.2.1 HB.out.2.2.2.1).mono ?_
  rintro e w3 ⟨aS, cs, rfl, hSl3, f3, hzs⟩
  rw [HSe.out] at hSl3 ⊢
  have H3 := Lib.hid (And.intro (H2.out.1.trans f3) (And.intro (f3.blk (show w2.heap[gl]? = _ from H2.out.2.1) (by simp)) (And.intro (f3.blk (show w2.heap[gd]? = _ from H2.out.2.2.2) (by simp)) (And.intro hSl3 hzs))))
  have HI3 := Lib.hid (HK.out.2.2.to0 (H2.out.1.trans f3))
  clear hSl3 f3 hzs
  go_wp2_with fail
  go_loopw [11] (fun v11 wr => ∃ j : Nat, j ≤ S.length ∧ v11 = .int .i64 (j : Int) ∧ RfTo rb (puts D (symsP lit dist (S.take j))) M w3 wr) (fun v11 _ => S.length - (intOf v11).toNat)
  case atStart => exact ⟨0, by omega, rfl, by simpa [symsP, puts] using HI3.out.refl⟩
  case round =>
    obtain ⟨j, hj, rfl, hT⟩ := hrel
    by_cases hlt : j < S.length
    · have hji : (j : Int) < (S.length : Int) := by omega
      obtain ⟨x, hxj⟩ : ∃ x, S[j]? = some x := ⟨S[j], List.getElem?_eq_getElem hlt⟩
      have hx := HS.out.1 x (List.mem_of_getElem? hxj)
      have hMl := HI3.out.lt
      obtain ⟨bS, oS, rfl, hbS, hcS⟩ := H3.out.2.2.2.1 (by intro h; rw [h] at hxj; simp at hxj)
      have hzb := H3.out.2.2.2.2 _ rfl
      have hM0 := HK.out.2.2.lt
      have hw2 := H2.out.1.size
      have hnM : ∀ i, w.heap.size ≤ i → i ∉ M := fun i hi h => by have := hM0 i h; omega
      have HE := Lib.hid (show ∀ X, Fr M w3 X → X.cell? ⟨bS, oS + j * 4 + 0, none⟩ = some (.bool x.dist) ∧ X.cell? ⟨bS, oS + j * 4 + 1, none⟩ = some (.int .i64 (x.n : Int)) ∧ X.cell? ⟨bS, oS + j * 4 + 2, none⟩ = some (.int .i64 (x.extra : Int)) ∧ X.cell? ⟨bS, oS + j * 4 + 3, none⟩ = some (.int .i64 (x.bits : Int)) from fun X f => by
        have e : ∀ k, X.cell? ⟨bS, k, none⟩ = w3.cell? ⟨bS, k, none⟩ := fun k => by unfold World.cell?; rw [f.block bS hbS (hnM bS (by simp only at hzb; omega))]
        refine ⟨?_, ?_, ?_, ?_⟩
        · rw [e]; exact hcS j x hxj 0 _ rfl
        · rw [e]; exact hcS j x hxj 1 _ rfl
        · rw [e]; exact hcS j x hxj 2 _ rfl
        · rw [e]; exact hcS j x hxj 3 _ rfl)
      obtain ⟨c0, c1, c2, c3⟩ := HE.out wr hT.fr
      have yPL : Prow Cd 99 wr gl lit.length (codeP lit) := hT.fr.blk (show w3.heap[gl]? = _ from H3.out.2.1) (hnM gl (by have := H1.out.2.1; have := FV.out.1.size; omega))
      have yPD : Prow Cd 99 wr gd dist.length (codeP dist) := hT.fr.blk (show w3.heap[gd]? = _ from H3.out.2.2.1) (hnM gd (by have := H2.out.2.2.1; have := H1.out.1.size; omega))
      have HLn := Lib.hid (show (puts D (symsP lit dist (S.take j))).2 ≤ 15000000 by
        rw [puts_len, bits_syms]
        have h9 := takesL_le lit dist HB.out.2.2.2.2.2.2.1 HB.out.2.2.2.2.2.2.2.1 (S.take j) (fun s hs => HS.out.1 s (List.mem_of_mem_take hs))
        have h10 : (S.take j).length ≤ 2001 := by rw [List.length_take]; omega
        omega)
      have HTk := Lib.hid (show S.take (j + 1) = S.take j ++ [x] by rw [List.take_add_one, hxj]; rfl)
      obtain ⟨sd, sn, se, sb⟩ := x
      simp only at c0 c1 c2 c3
      rw [Nat.add_zero] at c0
      simp only [Nat.add_zero] at HE
      have hss : sb ≤ 13 := hx.2.2
      have HSE := Lib.hid (show se < 2 ^ sb from hx.2.1)
      have HT := Lib.hid hT
      clear hT hMl hcS hxj hzb hM0 hw2 hnM
      cases sd
      · have hsn : sn < lit.length := by have := hx.1; simp at this; have := HB.out.2.2.2.2.2.2.2.2.1; omega
        have p0 := yPL.cell (fun _ => rfl) sn 0 hsn (by omega)
        have p1 := yPL.cell (fun _ => rfl) sn 1 hsn (by omega)
        simp [Cd] at p0 p1
        have h15 : (codeP lit sn).2 ≤ 15 := by have := codeW_15 HK.out.1.1 sn; exact this
        have hcl : (codeP lit sn).1 < 2 ^ (codeP lit sn).2 := codeP_lt (Fine.mk (kind_ok (kind_le HK.out.1.1)).2 (kind_wt HK.out.1.1 HK.out.1.2)) sn
        have HC := Lib.hid (And.intro h15 hcl)
        have hsni : (sn : Int) < (lit.length : Int) := by omega
        clear h15 hcl
        go_wp2_with fail
        refine (rcode_to (n := (codeP lit sn).1) (size := (codeP lit sn).2) HT.out (by have := HC.out.1; omega) HC.out.2 (by have := HLn.out; omega)).mono ?_
        rintro e w4 ⟨rfl, h4⟩
        have hS4 := HE.out w4 h4.fr
        obtain ⟨_, _, hc2, hc3⟩ := hS4
        have H4 := Lib.hid h4
        clear h4 c0 c1 c2 c3 p0 p1
        go_wp2_with fail
        first | refine wp_region_quiet_tail 11 (by kernel_rfl) (by kernel_rfl) ?_ | refine wp_region_quiet_tail 10 (by kernel_rfl) (by kernel_rfl) ?_ | refine wp_region_quiet_tail 12 (by kernel_rfl) (by kernel_rfl) ?_ | refine wp_region_quiet_tail 9 (by kernel_rfl) (by kernel_rfl) ?_
        simp only [List.take_succ_cons, List.take_zero, List.drop_succ_cons, List.drop_zero]
        repeat go_big_quiet_step (fail)
        refine wpQuiet_nil ?_
        go_wp2_with fail
        refine (rput_to (n := se) (size := sb) (H4.out.till (Fr.drew (Fr.refl _ _))) (by omega) HSE.out (by have := HLn.out; have := HC.out.1; simp only [putP]; omega) (by rfl) (by rfl)).mono ?_
        rintro e w5 ⟨rfl, h5⟩
        have H5 := Lib.hid h5
        clear h5
        go_wp2_with fail
        refine ⟨⟨j + 1, by omega, by go_num, ?_⟩, by simp [intOf]; omega⟩
        rw [HTk.out, symsP_snoc]
        exact H5.out
      · have hsn : sn < dist.length := by have := hx.1; simp at this; have := HB.out.2.2.2.2.2.2.2.2.2; omega
        have p0 := yPD.cell (fun _ => rfl) sn 0 hsn (by omega)
        have p1 := yPD.cell (fun _ => rfl) sn 1 hsn (by omega)
        simp [Cd] at p0 p1
        have h15 : (codeP dist sn).2 ≤ 15 := by have := codeW_15 HK.out.2.1.1 sn; exact this
        have hcl : (codeP dist sn).1 < 2 ^ (codeP dist sn).2 := codeP_lt (Fine.mk (kind_ok (kind_le HK.out.2.1.1)).2 (kind_wt HK.out.2.1.1 HK.out.2.1.2)) sn
        have HC := Lib.hid (And.intro h15 hcl)
        have hsni : (sn : Int) < (dist.length : Int) := by omega
        clear h15 hcl
        go_wp2_with fail
        refine (rcode_to (n := (codeP dist sn).1) (size := (codeP dist sn).2) HT.out (by have := HC.out.1; omega) HC.out.2 (by have := HLn.out; omega)).mono ?_
        rintro e w4 ⟨rfl, h4⟩
        have hS4 := HE.out w4 h4.fr
        obtain ⟨_, _, hc2, hc3⟩ := hS4
        have H4 := Lib.hid h4
        clear h4 c0 c1 c2 c3 p0 p1
        go_wp2_with fail
        first | refine wp_region_quiet_tail 11 (by kernel_rfl) (by kernel_rfl) ?_ | refine wp_region_quiet_tail 10 (by kernel_rfl) (by kernel_rfl) ?_ | refine wp_region_quiet_tail 12 (by kernel_rfl) (by kernel_rfl) ?_ | refine wp_region_quiet_tail 9 (by kernel_rfl) (by kernel_rfl) ?_
        simp only [List.take_succ_cons, List.take_zero, List.drop_succ_cons, List.drop_zero]
        repeat go_big_quiet_step (fail)
        refine wpQuiet_nil ?_
        go_wp2_with fail
        refine (rput_to (n := se) (size := sb) (H4.out.till (Fr.drew (Fr.refl _ _))) (by omega) HSE.out (by have := HLn.out; have := HC.out.1; simp only [putP]; omega) (by rfl) (by rfl)).mono ?_
        rintro e w5 ⟨rfl, h5⟩
        have H5 := Lib.hid h5
        clear h5
        go_wp2_with fail
        refine ⟨⟨j + 1, by omega, by go_num, ?_⟩, by simp [intOf]; omega⟩
        rw [HTk.out, symsP_snoc]
        exact H5.out
    · have hje : j = S.length := by omega
      subst hje
      rw [List.take_of_length_le (Nat.le_refl _)] at hT
      have HE := Lib.hid (hT.after H3.out.1)
      clear hT
      go_wp2_with fail
      refine bodyPost_end (v := .tuple #[]) (by simp [results, Tryz.results32, go_sem]) rfl ?_
      exact ⟨rfl, HE.out⟩
end Go.Proofs.YtciejmlhdmjajaaGreat
namespace Go.Proofs.YtciejmlhdmjajaaGreat
open Go.RowKit
set_option linter.unusedVariables false
set_option linter.unusedSimpArgs false

set_option maxRecDepth 100000 in
set_option maxHeartbeats 1600000 in
theorem refRunBits_ok (s : Nat) (w : World) (h1 : s ≤ 18) : Calls Tryz.prog 55 #[.int .u8 (s : Int)] w fun e w' => e = .returned (.int .i64 (rbN s : Nat)) ∧ w' = w := by
  by_cases ha : s < 16
  · have HE := Lib.hid (show rbN s = 0 by unfold rbN; rw [if_pos ha])
    have h0i : 0 ≤ (s : Int) := by omega
    have hai : (s : Int) < 16 := by omega
    clear ha h1
    go_enter Tryz.func55, Tryz.ntmps55
    go_wp2_with fail
    go_ret
    rw [HE.out]
    exact ⟨rfl, rfl⟩
  · have h2 : s = 16 ∨ s = 17 ∨ s = 18 := by omega
    rcases h2 with rfl | rfl | rfl <;>
    · go_enter Tryz.func55, Tryz.ntmps55
      go_wp2_with fail
      go_ret
      exact ⟨rfl, rfl⟩
end Go.Proofs.YtciejmlhdmjajaaGreat
namespace Go.Proofs.YtciejmlhdmjajaaGreat
open Go.RowKit
set_option linter.unusedVariables false
set_option linter.unusedSimpArgs false

theorem wpList_cat8 {ops : Array Oper} {rest : List Oper} {o : Oper} {a : Act} {w : World} {Q : Exit → Act → World → Prop} (wo : World) (hgd : o.guard = none) (s x : Operand)
    (ho : o.op = .call { callee := .builtin .append, args := #[s, x], argTypes := #[36, 36] }) (v : Value) (n : Nat) (xs : List Value) (hs : a.eval s = v) (hown : w.ownsRow wo.heap.size 5 1 v n xs) (hf : Fr [] wo w) (ax : Option Addr) (m c : Nat) (L : List Nat) (hx : a.eval x = .slice ax m c)
    (hL : SlOf U8 1 w ax L) (hm : m ≤ L.length) (h0 : 0 < m) (N : Nat) (hN : n + m = N) (h63 : N ≤ 1000000000)
    (h : ∀ g cap w', Hid (Catd wo g cap N (xs ++ u8s (L.take m)) w') → wpList Tryz.prog ops Q rest (a.put o.dst (.slice (some ⟨g, 0, none⟩) N cap)) w') : wpList Tryz.prog ops Q (o :: rest) a w := by
  subst hN
  refine wpList_plain hgd fun K hK => ?_
  obtain ⟨g, cap, w', hr, hC⟩ := cat_run o.type hown hf m c hL hm h0 h63
  unfold Oper.wp execOp
  simp only [ho, resolve, invoke, builtin, Sem.run_bind, Sem.run_pure, Result.andThen_ok, List.map_toArray, List.map_cons, List.map_nil, hs, hx, hr]
  exact hK _ _ (h g cap w' (Lib.hid hC))
set_option maxRecDepth 100000 in
set_option maxHeartbeats 6400000 in
theorem rdynamic_ok (rb : Nat) (aL aD : Option Addr) (cL cD : Nat) (lit dist : List Nat) (D : Nat × Nat) (M : List Nat) (w : World) (hL : SlOf U8 1 w aL lit) (hD : SlOf U8 1 w aD dist) (h8 : ∀ x ∈ lit, x ≤ 15) (k8 : ∀ x ∈ dist, x ≤ 15) (hll : lit.length = 286) (hdl : dist.length = 30) (hcL : 286 ≤ cL) (hcD : 30 ≤ cD)
    (h : RfI rb D M w) (hDL : D.2 ≤ 10000000) :
    Calls Tryz.prog 35 #[.pointer (some ⟨rb, 0, none⟩), .agg #[.slice aL lit.length cL, .slice aD dist.length cD]] w fun e w' => e = .returned (.tuple #[]) ∧ RfTo rb (puts D (headP lit dist)) M w w' := by
  have HB := Lib.hid (And.intro hL (And.intro hD (And.intro h8 (And.intro k8 (And.intro hll hdl)))))
  have HH := Lib.hid (show headP lit dist = [(uptoL lit 257 - 257, 5), (uptoL dist 1 - 1, 5), (uptoL (ordL lit dist) 4 - 4, 4)] ++ (((ordL lit dist).take (uptoL (ordL lit dist) 4)).map (fun n => (n, 3)) ++ runsP (ownL lit dist) (rsL lit dist)) from rfl)
  have ha1 : 257 ≤ uptoL lit 257 := uptoD_ge lit 257 _ (by omega)
  have ha2 : uptoL lit 257 ≤ 286 := by rw [← hll]; exact uptoD_le lit 257 _
  have hb1 : 1 ≤ uptoL dist 1 := uptoD_ge dist 1 _ (by omega)
  have hb2 : uptoL dist 1 ≤ 30 := by rw [← hdl]; exact uptoD_le dist 1 _
  have HU1 := Lib.hid (fun W (f : Fr [] w W) => refUpto_ok aL cL lit 257 W (hL.fr0 f) (by omega) (fun x hx => by have := h8 x hx; omega) (by omega))
  have HU2 := Lib.hid (fun W (f : Fr [] w W) => refUpto_ok aD cD dist 1 W (hD.fr0 f) (by omega) (fun x hx => by have := k8 x hx; omega) (by omega))
  obtain ⟨na, hna⟩ : ∃ na, uptoL lit 257 = na := ⟨_, rfl⟩
  obtain ⟨nb, hnb⟩ : ∃ nb, uptoL dist 1 = nb := ⟨_, rfl⟩
  have hall : allL lit dist = lit.take na ++ dist.take nb := by unfold allL; rw [hna, hnb]
  rw [hna] at HU1 HH ha1 ha2
  rw [hnb] at HU2 HH hb1 hb2
  have hai : (na : Int) ≤ (cL : Int) := by omega
  have hbi : (nb : Int) ≤ (cD : Int) := by omega
  have ha1i : 257 ≤ (na : Int) := by omega
  have ha2i : (na : Int) ≤ 286 := by omega
  have hb1i : 1 ≤ (nb : Int) := by omega
  have hb2i : (nb : Int) ≤ 30 := by omega
  have HX := Lib.hid (And.intro hall (And.intro hna hnb))
  have HI := Lib.hid h
  clear hL hD h8 k8 hll hdl hall hna hnb h ha1 ha2 hb1 hb2
  go_enter Tryz.func35, Tryz.ntmps35
  go_wp2_with fail
  obtain ⟨V, hV⟩ : ∃ V, w.alloc (.cells #[.slice aL lit.length cL, .slice aD dist.length cD] 45) = V := ⟨_, rfl⟩
  have fV : Fr [] w V := by rw [← hV]; exact Fr.alloc _ _ _
  have xV : V.heap[w.heap.size]? = some (.cells #[.slice aL lit.length cL, .slice aD dist.length cD] 45 (0, 0)) := by rw [← hV]; exact alloc_last _ _
  have HV := Lib.hid (And.intro fV xV)
  rw [hV]
  have SK := Lib.hid (fun W (f : Fr [] V W) => (show W.cell? ⟨w.heap.size, 0, none⟩ = some (.slice aL lit.length cL) ∧ W.cell? ⟨w.heap.size, 1, none⟩ = some (.slice aD dist.length cD) from ⟨cell_of (f.blk xV (by simp)) 0, cell_of (f.blk xV (by simp)) 1⟩))
  clear hV fV xV
  go_upto_region 1 with fail
  go_cut [4, 5] from 21 to 27 (fun v4 v5 wx => v4 = .int .i64 (na : Int) ∧ v5 = .int .i64 (nb : Int) ∧ Fr [] V wx)
  case first =>
    have c0 := (SK.out V (Fr.refl _ _)).1
    have c1 := (SK.out V (Fr.refl _ _)).2
    have U1 : Hid (∀ W, Fr [] V W → Calls Tryz.prog 52 #[.slice aL lit.length cL, .int .i64 257] W fun e w' => e = .returned (.int .i64 (na : Int)) ∧ Fr [] W w') := Lib.hid (fun W f => HU1.out W (HV.out.1.trans f))
    have U2 : Hid (∀ W, Fr [] V W → Calls Tryz.prog 52 #[.slice aD dist.length cD, .int .i64 1] W fun e w' => e = .returned (.int .i64 (nb : Int)) ∧ Fr [] W w') := Lib.hid (fun W f => HU2.out W (HV.out.1.trans f))
    go_region_held3 (fun W => W.cell? ⟨w.heap.size, 0, none⟩ = some (.slice aL lit.length cL) ∧ W.cell? ⟨w.heap.size, 1, none⟩ = some (.slice aD dist.length cD))
      (first | exact SK.out _ G2.out | exact SK.out _ G1.out | exact SK.out _ (Fr.drew (Fr.refl _ _)) | exact SK.out _ (Fr.refl _ _))
      (first
        | (go_at_call 52; (with_reducible refine (U1.out _ (by first | exact Fr.drew (Fr.refl _ _) | exact Fr.refl _ _)).mono ?_); rintro e w5 ⟨rfl, f5⟩; have G1 := Lib.hid ((show Fr [] V _ from by first | exact Fr.drew (Fr.refl _ _) | exact Fr.refl _ _).trans f5); clear f5)
        | (go_at_call 52; (with_reducible refine (U2.out _ (by exact G1.out)).mono ?_); rintro e w6 ⟨rfl, f6⟩; have G2 := Lib.hid (G1.out.trans f6); clear f6))
    all_goals go_wp2_with fail
    all_goals go_meet
    all_goals (case rel => exact ⟨rfl, rfl, G2.out⟩)
  case rest =>
  obtain ⟨rfl, rfl, hfc⟩ := hcut
  have FC := Lib.hid (HV.out.1.trans hfc)
  have SK2 := Lib.hid (fun W (f : Fr [] wc W) => SK.out W (hfc.trans f))
  have c0 := (SK.out wc hfc).1
  have c1 := (SK.out wc hfc).2
  clear HU1 HU2 hfc
  go_wp2_with (first
    | (at_builtin; refine wpList_cat8 wc rfl (.tmp 27) (.tmp 31) rfl (.slice none 0 0) 0 [] rfl (World.ownsRow_nil _ _ _ _) (Fr.refl _ _) aL na cL lit rfl (HB.out.1.fr0 FC.out) (by have := HB.out.2.2.2.2.1; omega) (by omega) na (by omega) (by omega) ?_; intro g1 c1' w1 HQ1; have d1 := (SK2.out _ HQ1.out.fr).2)
    | (at_builtin; refine wpList_cat8 wc rfl (.tmp 33) (.tmp 37) rfl _ na _ rfl HQ1.out.own HQ1.out.fr aD nb cD dist rfl (HB.out.2.1.fr0 (FC.out.trans HQ1.out.fr)) (by have := HB.out.2.2.2.2.2; omega) (by omega) (na + nb) rfl (by omega) ?_; intro g2 c2 w2 HQ2))
  have hln : (allL lit dist).length = na + nb := by rw [HX.out.1, List.length_append, List.length_take, List.length_take]; have := HB.out; omega
  have hpk := refPack_ok (some ⟨g2, 0, none⟩) c2 (allL lit dist) w2 (sl_own8 (by rw [HX.out.1, u8s_append]; exact HQ2.out.own) hln.symm) (by omega) (allL_ok HB.out.2.2.1 HB.out.2.2.2.1)
  rw [hln] at hpk
  refine hpk.mono ?_
  rintro e w3 ⟨v3, rfl, hR3⟩
  have hrsl := rsL_len lit dist (by have := HB.out; omega) (by have := HB.out; omega)
  have hrk : ∀ p ∈ rsL lit dist, RunOk p := packL_ok _ (allL_ok HB.out.2.2.1 HB.out.2.2.2.1)
  have hR3' : RunRow w2.heap.size w2 (rsL lit dist) v3 w3 := hR3
  obtain ⟨rs, hrs⟩ : ∃ rs, rsL lit dist = rs := ⟨_, rfl⟩
  rw [hrs] at hR3' hrsl hrk HH
  obtain ⟨ar, cr, rfl⟩ := row_form hR3'.1
  have hsr : SlOf RunE 2 w3 ar rs := by
    obtain ⟨a0, cap, h1, h2⟩ := slOf_own (enc := RunE) (fun _ => rfl) hR3'.1 rfl
    cases h1
    exact h2
  have f23 : Fr [] w2 w3 := Fr.of_below hR3'.2.1
  have hzr : ∀ p, ar = some p → w2.heap.size ≤ p.block := fun p hp => by subst hp; exact own_blkE hR3'.1
  have H3 := Lib.hid (And.intro hsr (And.intro ((FC.out.trans HQ2.out.fr).trans f23) (And.intro hrk (And.intro hrs hzr))))
  have hrli : (rs.length : Int) ≤ 318 := by omega
  have hmk : ∀ W : World, (Instr.makeSlice 81 (.int .i64 19) (.int .i64 19)).run Tryz.prog W = .ok (.slice (some ⟨W.heap.size, 0, none⟩) 19 19) (W.alloc (.cells (madeCells #[.int .i64 0] 19) 3)) := fun W => run_make_nats W 19 (by omega)
  clear hln hpk hR3 hR3' hrk hrs hsr f23 hzr d1
  go_wp2_with fail
  obtain ⟨V4, hV4⟩ : ∃ V4, w3.alloc (.cells (madeCells #[.int .i64 0] 19) 3) = V4 := ⟨_, rfl⟩
  have f34 : Fr [] w3 V4 := by rw [← hV4]; exact Fr.alloc _ _ _
  have nV : Nrow V4 w3.heap.size 3 .i64 19 (fun _ => 0) := by rw [← hV4]; exact made_nats w3 19
  rw [hV4]
  obtain ⟨gc, hgc⟩ : ∃ gc, w3.heap.size = gc := ⟨_, rfl⟩
  rw [hgc] at nV ⊢
  have H4 := Lib.hid (And.intro f34 (And.intro nV hgc))
  clear f34 nV hgc hV4 hmk
  go_loopw [10] (fun v10 wr => ∃ k : Nat, k ≤ rs.length ∧ v10 = .int .i64 (k : Int) ∧ Nrow wr gc 3 .i64 19 (cntR (rs.take k)) ∧ Fr [gc] V4 wr) (fun v10 _ => rs.length - (intOf v10).toNat)
  case atStart => exact ⟨0, by omega, rfl, H4.out.2.1.congr fun j hj => rfl, Fr.refl _ _⟩
  case round =>
    obtain ⟨k, hk, rfl, hN, hf⟩ := hrel
    by_cases hlt : k < rs.length
    · have hki : (k : Int) < (rs.length : Int) := by omega
      obtain ⟨p, hp⟩ : ∃ p, rs[k]? = some p := ⟨rs[k], List.getElem?_eq_getElem hlt⟩
      have hpm := List.mem_of_getElem? hp
      have hpk := H3.out.2.2.1 p hpm
      obtain ⟨b, o, rfl, hbl, hcell⟩ := H3.out.1 (by intro h; rw [h] at hp; simp at hp)
      have fall : Fr [gc] w3 wr := H4.out.1.nil.trans hf
      have hbg : b ∉ [gc] := by have := H4.out.2.2; simp; omega
      have e1 : ∀ j, wr.cell? ⟨b, j, none⟩ = w3.cell? ⟨b, j, none⟩ := fun j => by unfold World.cell?; rw [fall.block b hbl hbg]
      have c0 := hcell k p hp 0 (.int .u8 (p.1 : Int)) rfl
      rw [← e1, Nat.add_zero] at c0
      obtain ⟨p1, p2⟩ := p
      simp only at c0
      have hp1 : p1 < 19 := by have := hpk.1; simp only at this; omega
      have hp1i : (p1 : Int) < 19 := by omega
      have hc1 := hN.cell p1 hp1
      have hz := free_of hN p1
      have hcl := cntR_le (rs.take k) p1
      rw [List.length_take] at hcl
      have HT := Lib.hid (fun i => cntR_take rs k (p1, p2) hp i)
      obtain ⟨T, hT⟩ : ∃ T, cntR (rs.take k) p1 = T := ⟨_, rfl⟩
      rw [hT] at hc1 hcl
      have hTi : (T : Int) ≤ 318 := by omega
      have HN := Lib.hid (And.intro hN (And.intro hf hT))
      clear hN hf hT hp hpm hpk hcell e1 hbg fall
      go_wp2_with fail
      obtain ⟨hN, hf, hT⟩ := HN.out
      have s1 := hN.set_ (G := cntR (rs.take (k + 1))) p1 (T + 1) (fun j hj => by rw [HT.out j]; simp only [hT])
      have e1 : ((T + 1 : Nat) : Int) = (T : Int) + 1 := by omega
      rw [e1] at s1
      exact ⟨⟨k + 1, by omega, by go_num, s1, hf.trans (Fr.setCell _ _ _ _)⟩, by simp [intOf]; omega⟩
    · have hke : k = rs.length := by omega
      subst hke
      rw [List.take_of_length_le (Nat.le_refl _)] at hN
      have HL := Lib.hid (ref_few2 gc 19 19 7 3 (cntR rs) wr hN (by omega) (fun i _ => by have := cntR_le rs i; omega) (by omega) (by omega) (fun k hk => needN_19 k (by omega)))
      have f4r : Fr [] w3 wr := hf.outL H4.out.1 (fun i hi => .inr (by have := H4.out.2.2; simp at hi; omega))
      have HF4 := Lib.hid f4r
      have HGC := Lib.hid hf
      clear hN hf f4r
      go_wp2_with fail
      refine HL.out.mono ?_
      rintro e w5 ⟨gl, rfl, hNl, f5, hglz⟩
      have hNo : Nrow w5 gl 5 .u8 19 (ownF lit dist) := hNl.congr fun j hj => by unfold ownF; rw [H3.out.2.2.2.1]
      have H5 := Lib.hid (And.intro hNo (HF4.out.trans f5))
      have HG5 := Lib.hid (show Fr [gc] w3 w5 from (H4.out.1.nil.trans HGC.out).trans f5.nil)
      have HGZ := Lib.hid (show w.heap.size ≤ gl by have := H3.out.2.1.size; have := HF4.out.size; omega)
      clear hNl hNo f5 HL hglz
      go_wp2_with fail
      refine (refOrder_ok _).mono ?_
      rintro e w6 ⟨rfl, hgo, f6⟩
      obtain ⟨go, hgo2⟩ : ∃ go, w5.heap.size = go := ⟨_, rfl⟩
      rw [hgo2] at hgo ⊢
      have HG6 := Lib.hid (HG5.out.trans f6.nil)
      have H6 := Lib.hid (And.intro hgo (And.intro (H5.out.1.to f6 (by simp)) (H5.out.2.trans f6)))
      clear hgo hgo2 f6
      go_wp2_with fail
      go_loopw [13, 15] (fun v13 v15 wr => ∃ k : Nat, k ≤ 19 ∧ v15 = .int .i64 (k : Int) ∧ wr.ownsRow w6.heap.size 5 1 v13 k (u8s ((ordL lit dist).take k)) ∧ Fr [] w6 wr) (fun _ v15 _ => 19 - (intOf v15).toNat)
      case atStart => exact ⟨0, by omega, rfl, World.ownsRow_nil _ _ _ _, Fr.refl _ _⟩
      case round =>
        obtain ⟨k, hk, rfl, hrow, hf⟩ := hrel
        obtain ⟨ao, co, rfl⟩ := row_form hrow
        by_cases hlt : k < 19
        · have hki : (k : Int) < 19 := by omega
          obtain ⟨s, hs1, hs2, hs3⟩ := order_get k hlt
          have hsi : (s : Int) < 19 := by omega
          have hO := hf.blk H6.out.1 (by simp)
          have oc := cell_of hO k
          rw [hs3] at oc
          have nc := (H6.out.2.1.to hf (by simp)).cell s hs2
          have HT := Lib.hid (ordL_take lit dist k s hs1)
          obtain ⟨y, hy⟩ : ∃ y, ownF lit dist s = y := ⟨_, rfl⟩
          rw [hy] at nc HT
          have R0 := Lib.hid hrow
          have R1 := Lib.hid hf.below
          have R2 := Lib.hid hf.size
          clear hO hs1 hs3 hrow hf hy
          go_wp2_with (at_builtin; go_must (refine wpList_push w6.heap.size w6 wr rfl (.tmp 73) (.tmp 81) 36 rfl 5 1 1 u8Elem (.slice ao k co) k _ rfl R0 R1 R2.out #[.int .u8 (y : Int)] 1 1 rfl rfl rfl (by omega) (by omega) (by omega) ?_); intro g7 c7 w7 HQ7)
          refine ⟨⟨k + 1, by omega, by go_num, by rw [HT.out, u8s_append]; exact HQ7.out.own, Fr.of_below HQ7.out.below⟩, by simp [intOf]; omega⟩
        · have hke : k = 19 := by omega
          subst hke
          have hln : (ordL lit dist).length = 19 := by unfold ordL; rw [List.length_map]; rfl
          rw [List.take_of_length_le (by omega)] at hrow
          have hzi : ∀ p, ao = some p → w6.heap.size ≤ p.block := fun p hp => by subst hp; exact own_blkE hrow
          have hsl : SlOf U8 1 wr ao (ordL lit dist) := sl_own8 hrow hln.symm
          have hO7 := ordL_le lit dist
          have hup := refUpto_ok ao co (ordL lit dist) 4 wr hsl (by omega) (fun x hx => by have := hO7 x hx; omega) (by omega)
          have hkl := kl_le lit dist
          obtain ⟨kl, hkl2⟩ : ∃ kl, uptoL (ordL lit dist) 4 = kl := ⟨_, rfl⟩
          rw [hkl2] at hup hkl HH
          rw [hln] at hup
          have HUP := Lib.hid hup
          have hfw : Fr [] w wr := (H3.out.2.1.trans H6.out.2.2).trans hf
          have hkl1 : 4 ≤ (kl : Int) := by omega
          have hkl3 : (kl : Int) ≤ 19 := by omega
          have HG7 := Lib.hid (HG6.out.trans hf.nil)
          have HR7 := Lib.hid (And.intro hsl (And.intro hzi (And.intro hfw (And.intro (H6.out.2.1.to hf (by simp)) (And.intro hO7 (And.intro hln (H6.out.2.2.trans hf)))))))
          clear hrow hf hsl hzi hup hfw hO7 hln hkl2
          go_wp2_with fail
          refine HUP.out.mono ?_
          rintro e w7 ⟨rfl, f7⟩
          obtain ⟨g1', g2', g3', g4', g5', g6', g7'⟩ := HR7.out
          have HI7 := Lib.hid (HI.out.to0 (g3'.trans f7)).refl
          have HG8 := Lib.hid (HG7.out.trans f7.nil)
          have H7 := Lib.hid (And.intro (g1'.fr0 f7) (And.intro g2' (And.intro (g3'.trans f7) (And.intro (g4'.to f7 (by simp)) (And.intro g5' (And.intro g6' (g7'.trans f7)))))))
          clear HUP HR7 g1' g2' g3' g4' g5' g6' g7' f7
          go_wp2_with fail
          refine (rput_to (n := na - 257) (size := 5) HI7.out (by omega) (by omega) (by omega) (by omega) (by rfl)).mono ?_
          rintro e w8 ⟨rfl, h8⟩
          have H8 := Lib.hid h8
          clear h8
          go_wp2_with fail
          refine (rput_to (n := nb - 1) (size := 5) H8.out (by omega) (by omega) (by simp only [putP]; omega) (by omega) (by rfl)).mono ?_
          rintro e w9 ⟨rfl, h9⟩
          have H9 := Lib.hid h9
          clear h9
          go_wp2_with fail
          refine (rput_to (n := kl - 4) (size := 4) H9.out (by omega) (by omega) (by simp only [putP]; omega) (by omega) (by rfl)).mono ?_
          rintro e w10 ⟨rfl, h10⟩
          obtain ⟨D3, hD3⟩ : ∃ D3, putP (putP (putP D (na - 257, 5)) (nb - 1, 5)) (kl - 4, 4) = D3 := ⟨_, rfl⟩
          rw [hD3] at h10
          have hD3s : D3.2 = D.2 + 14 := by rw [← hD3]; simp only [putP]
          have H10 := Lib.hid h10
          have HD3 := Lib.hid hD3
          clear h10 hD3 H8 H9
          go_wp2_with fail
          have hMl := HI.out.lt
          have HMl := Lib.hid hMl
          have hw6 := H6.out.2.2.size
          have hw3 := H3.out.2.1.size
          have hw7s := H7.out.2.2.1.size
          have HSZ := Lib.hid (And.intro hw6 (And.intro hw3 hw7s))
          clear hw6 hw3 hw7s hMl
          go_loopw [17] (fun v17 wr => ∃ j : Nat, j ≤ kl ∧ v17 = .int .i64 (j : Int) ∧ RfTo rb (puts D3 (((ordL lit dist).take j).map fun n => (n, 3))) M w7 wr) (fun v17 _ => kl - (intOf v17).toNat)
          case atStart => exact ⟨0, by omega, rfl, by simpa [puts] using H10.out⟩
          case round =>
            obtain ⟨j, hj, rfl, hT⟩ := hrel
            by_cases hlt : j < kl
            · have hji : (j : Int) < (kl : Int) := by omega
              obtain ⟨x, hx⟩ : ∃ x, (ordL lit dist)[j]? = some x := ⟨(ordL lit dist)[j]'(by have := H7.out.2.2.2.2.2.1; omega), List.getElem?_eq_getElem _⟩
              have hx7 := H7.out.2.2.2.2.1 x (List.mem_of_getElem? hx)
              obtain ⟨bi, oi, rfl, hbl, hcell⟩ := (H7.out.1.fr hT.fr fun p hp hi => by
                have h1 := H7.out.2.1 p hp
                have h2 := HMl.out _ hi
                have := HSZ.out
                omega) (by intro h; rw [h] at hx; simp at hx)
              have cc := hcell j x hx 0 (.int .u8 (x : Int)) rfl
              rw [Nat.add_zero, Nat.mul_one] at cc
              have hxi : (x : Int) ≤ 7 := by omega
              have HTj := Lib.hid (show ((ordL lit dist).take (j + 1)).map (fun n => (n, 3)) = ((ordL lit dist).take j).map (fun n => (n, 3)) ++ [(x, 3)] by rw [List.take_add_one, hx]; simp)
              have HLn := Lib.hid (show (puts D3 (((ordL lit dist).take j).map fun n => (n, 3))).2 ≤ 10000200 by
                rw [puts_len, bits_order, List.length_take]; omega)
              have HT := Lib.hid hT
              clear hcell hT hx
              go_wp2_with fail
              refine (rput_to (n := x) (size := 3) HT.out (by omega) (by omega) (by have := HLn.out; omega) (by rfl) (by rfl)).mono ?_
              rintro e w11 ⟨rfl, h11⟩
              have H11 := Lib.hid h11
              clear h11
              go_wp2_with fail
              exact ⟨⟨j + 1, by omega, by go_num, by rw [HTj.out, puts_append]; exact H11.out⟩, by simp [intOf]; omega⟩
            · have hje : j = kl := by omega
              subst hje
              obtain ⟨D4, hD4⟩ : ∃ D4, puts D3 (((ordL lit dist).take j).map fun n => (n, 3)) = D4 := ⟨_, rfl⟩
              have hD4s : D4.2 ≤ 10000200 := by rw [← hD4, puts_len, bits_order, List.length_take]; omega
              rw [hD4] at hT
              have HD4 := Lib.hid hD4
              have hnl := H7.out.2.2.2.1.to hT.fr (fun hi => by have := HMl.out _ hi; have := HGZ.out; omega)
              have hcd := rcodes_any (some ⟨gl, 0, none⟩) 19 (ownL lit dist) wr (sl_nrow hnl) (by unfold ownL; simp) (fun x hx => by
                obtain ⟨s, _, rfl⟩ := List.mem_map.1 hx
                have := own_le lit dist s
                omega) (ownL_fine lit dist).1 (ownL_fine lit dist).2
              rw [show (ownL lit dist).length = 19 by unfold ownL; simp] at hcd
              have HCD := Lib.hid hcd
              have HT := Lib.hid hT
              clear hT hD4 hnl hcd
              go_wp2_with fail
              refine HCD.out.mono ?_
              rintro e w12 ⟨gw, rfl, hgw, hPw, f12⟩
              obtain ⟨M6, k6, f6, n6⟩ := HT.out
              have H12 := Lib.hid (And.intro (k6.to0 f12) (And.intro hPw (And.intro hgw (And.intro k6.lt (And.intro n6 (f12.outL f6 (fun i hi => by cases hi)))))))
              clear hPw hgw f12 HCD k6 f6 n6
              go_wp2_with fail
              go_loopw [20] (fun v20 wr => ∃ m : Nat, m ≤ rs.length ∧ v20 = .int .i64 (m : Int) ∧ RfTo rb (puts D4 (runsP (ownL lit dist) (rs.take m))) M6 w12 wr) (fun v20 _ => rs.length - (intOf v20).toNat)
              case atStart => exact ⟨0, by omega, rfl, by simpa [puts, runsP] using H12.out.1.refl⟩
              case round =>
                obtain ⟨m, hm, rfl, hT2⟩ := hrel
                by_cases hlt2 : m < rs.length
                · have hmi : (m : Int) < (rs.length : Int) := by omega
                  obtain ⟨p, hp⟩ : ∃ p, rs[m]? = some p := ⟨rs[m], List.getElem?_eq_getElem hlt2⟩
                  have hpk := H3.out.2.2.1 p (List.mem_of_getElem? hp)
                  have HP := Lib.hid (show runsP (ownL lit dist) (rs.take (m + 1)) = runsP (ownL lit dist) (rs.take m) ++ [codeW (ownL lit dist) p.1, (p.2, rbN p.1)] by unfold runsP; rw [List.take_add_one, hp, List.flatMap_append]; rfl)
                  obtain ⟨p1, p2⟩ := p
                  have hp1 : p1 ≤ 18 := hpk.1
                  have hp2 : p2 < 2 ^ rbN p1 := hpk.2
                  have fM : Fr M w7 wr := hT2.fr.outL H12.out.2.2.2.2.2 H12.out.2.2.2.2.1
                  obtain ⟨bR, oR, rfl, hbl, hcell⟩ := H3.out.1 (by intro h; rw [h] at hp; simp at hp)
                  have hzR := H3.out.2.2.2.2 _ rfl
                  simp only at hzR
                  have HE := Lib.hid (show ∀ X, Fr M w7 X → X.cell? ⟨bR, oR + m * 2, none⟩ = some (.int .u8 (p1 : Int)) ∧ X.cell? ⟨bR, oR + m * 2 + 1, none⟩ = some (.int .u8 (p2 : Int)) from fun X f => by
                    have hx3 : Fr [gc] w3 w7 := HG8.out
                    have hne : bR ∉ [gc] := by have := H4.out.2.2; simp; omega
                    have hnM : bR ∉ M := fun hi => by have := HMl.out _ hi; have := FC.out.size; have := HQ2.out.fr.size; omega
                    have e : ∀ k, X.cell? ⟨bR, k, none⟩ = w3.cell? ⟨bR, k, none⟩ := fun k => by unfold World.cell?; rw [f.block bR (Nat.lt_of_lt_of_le hbl hx3.size) hnM, hx3.block bR hbl hne]
                    have c0 := hcell m (p1, p2) hp 0 (.int .u8 (p1 : Int)) rfl
                    have c1 := hcell m (p1, p2) hp 1 (.int .u8 (p2 : Int)) rfl
                    rw [Nat.add_zero] at c0
                    rw [← Nat.add_assoc] at c1
                    exact ⟨by rw [e]; exact c0, by rw [e]; exact c1⟩)
                  obtain ⟨c0, c1⟩ := HE.out wr fM
                  have hrb7 := rbN_le p1
                  obtain ⟨rbn, hrb⟩ : ∃ rbn, rbN p1 = rbn := ⟨_, rfl⟩
                  have hRB := Lib.hid (fun W => refRunBits_ok p1 W hp1)
                  rw [hrb] at hRB HP hrb7 hp2
                  have hrbi : (rbn : Int) ≤ 7 := by omega
                  have hp1i : (p1 : Int) < 19 := by omega
                  have hp2i : (p2 : Int) < 256 := by have : 2 ^ rbn ≤ 2 ^ 7 := Nat.pow_le_pow_right (by decide) hrb7; omega
                  have gP : Prow Cd 99 wr gw 19 (codeP (ownL lit dist)) := hT2.fr.blk H12.out.2.1 (fun hi => by have h1 := H12.out.2.2.2.1 _ hi; have h2 := H12.out.2.2.1; omega)
                  have q0 := gP.cell (fun _ => rfl) p1 0 (by omega) (by omega)
                  have q1 := gP.cell (fun _ => rfl) p1 1 (by omega) (by omega)
                  simp [Cd] at q0 q1
                  have hown15 : (codeP (ownL lit dist) p1).2 ≤ 15 := codeW_15 (ownL_fine lit dist).1 p1
                  have hcl : (codeP (ownL lit dist) p1).1 < 2 ^ (codeP (ownL lit dist) p1).2 := codeP_lt (Fine.mk (kind_ok (kind_le (ownL_fine lit dist).1)).2 (kind_wt (ownL_fine lit dist).1 (ownL_fine lit dist).2)) p1
                  have HLn2 := Lib.hid (show (puts D4 (runsP (ownL lit dist) (rs.take m))).2 ≤ 20000000 by
                    rw [puts_len, bits_runs lit dist _ (fun q hq => H3.out.2.2.1 q (List.mem_of_mem_take hq))]
                    have h1 := takesR_le (ownF lit dist) (own_le lit dist) (rs.take m)
                    rw [List.length_take] at h1
                    omega)
                  have HC := Lib.hid (And.intro hown15 (And.intro hcl hp2))
                  have HT2 := Lib.hid (And.intro hT2 fM)
                  clear hcell hp hpk hbl fM gP hp2 hrb hT2 hown15 hcl hzR
                  go_wp2_with fail
                  refine (rcode_to (n := (codeP (ownL lit dist) p1).1) (size := (codeP (ownL lit dist) p1).2) HT2.out.1 (by have := HC.out.1; omega) HC.out.2.1 (by have := HLn2.out; omega)).mono ?_
                  rintro e w14 ⟨rfl, h14⟩
                  obtain ⟨c0', c1'⟩ := HE.out w14 (h14.fr.outL H12.out.2.2.2.2.2 H12.out.2.2.2.2.1)
                  have H14 := Lib.hid h14
                  clear h14 q0 q1 c0 c1
                  go_wp2_with fail
                  refine wp_region_quiet_tail 13 (by kernel_rfl) (by kernel_rfl) ?_
                  simp only [List.take_succ_cons, List.take_zero, List.drop_succ_cons, List.drop_zero]
                  repeat go_big_quiet_step (fail)
                  (go_big_quiet_want; go_big_quiet_op; refine ⟨_, hRB.out _, ?_⟩; go_big_quiet_on)
                  repeat go_big_quiet_step (fail)
                  refine wpQuiet_nil ?_
                  go_wp2_with fail
                  refine (rput_to (n := p2) (size := rbn) (H14.out.till (Fr.drew (Fr.refl _ _))) (by omega) HC.out.2.2 (by have := HLn2.out; have := HC.out.1; simp only [putP]; omega) (by rfl) (by rfl)).mono ?_
                  rintro e w15 ⟨rfl, h15⟩
                  have H15 := Lib.hid h15
                  clear h15
                  go_wp2_with fail
                  exact ⟨⟨m + 1, by omega, by go_num, by rw [HP.out, puts_append]; exact H15.out⟩, by simp [intOf]; omega⟩
                · have hme : m = rs.length := by omega
                  subst hme
                  have HE := Lib.hid ((RfTo.trans H12.out.1 H12.out.2.2.2.2.2 H12.out.2.2.2.2.1 hT2).after H7.out.2.2.1)
                  clear hT2
                  go_wp2_with fail
                  refine bodyPost_end (v := .tuple #[]) (by simp [results, Tryz.results35, go_sem]) rfl ?_
                  refine ⟨rfl, ?_⟩
                  have h9 := HE.out
                  rw [List.take_of_length_le (Nat.le_refl _), ← HD4.out, ← HD3.out] at h9
                  rw [HH.out, puts_append, puts_append]
                  exact h9
end Go.Proofs.YtciejmlhdmjajaaGreat

