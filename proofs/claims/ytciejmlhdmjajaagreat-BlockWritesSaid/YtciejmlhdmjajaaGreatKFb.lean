/- platenref11: which symbol a length has, a distance; platenref13: the symbols of tokens. platenref13: the symbols of tokens. -/
import Derived.Test.YtciejmlhdmjajaaGreatKEe
import Derived.Test.YtciejmlhdmjajaaGreatKOy
import Derived.Test.YtciejmlhdmjajaaGreatKEl
import Derived.Test.YtciejmlhdmjajaaGreatKEw
namespace Go.Proofs.YtciejmlhdmjajaaGreat
open Go.RowKit
set_option linter.unusedVariables false
set_option linter.unusedSimpArgs false

set_option maxRecDepth 100000 in
theorem lengths_ok (w : World) : Calls Tryz.prog 96 #[] w fun e w' => e = .returned (.slice (some ⟨w.heap.size, 0, none⟩) 29 29) ∧ Nrow w' w.heap.size 3 .i64 29 lengthF ∧ Fr [] w w' := by
  go_enter Tryz.func96, Tryz.ntmps96
  go_wp2_with fail
  go_ret
  refine ⟨rfl, ?_, Fr.alloc _ _ _⟩
  unfold Nrow
  rw [alloc_last]
  congr 2
theorem upto_lengths (n k : Nat) (hk : k < 29) (h1 : lengthF k ≤ n) (h2 : ∀ i, k + 1 ≤ i → i < 29 → n < lengthF i) : Upto lengthF 29 n (k + 1) :=
  ⟨by omega, fun i hi => Nat.le_trans (least_up i (by omega) k (by omega) (by omega)) h1, h2⟩
set_option maxRecDepth 100000 in
set_option maxHeartbeats 3200000 in
theorem refLength_ok (n : Nat) (w : World) (h3 : 3 ≤ n) (h258 : n ≤ 258) : Calls Tryz.prog 68 #[.int .i64 (n : Int)] w fun e w' => e = .returned (.tuple #[.int .i64 ((lenSym n : Nat) : Int), .int .i64 ((n - leastN (lenSym n) : Nat) : Int)]) ∧ Fr [] w w' := by
  have h3i : (3 : Int) ≤ (n : Int) := by omega
  have h4i : (n : Int) ≤ 258 := by omega
  have HN := Lib.hid (And.intro h3 h258)
  clear h3 h258
  go_enter Tryz.func68, Tryz.ntmps68
  go_wp2_with fail
  refine (lengths_ok w).mono ?_
  rintro e w1 ⟨rfl, hr, f1⟩
  have HR := Lib.hid (And.intro hr f1)
  clear hr f1
  go_wp2_with fail
  go_loopw [5] (fun v5 wr => ∃ k : Nat, k ≤ 29 ∧ v5 = .int .i64 ((k : Int) - 1) ∧ Hid (∀ i, k ≤ i → i < 29 → n < lengthF i) ∧ wr = w1) (fun v5 _ => (intOf v5 + 1).toNat)
  case atStart => exact ⟨29, Nat.le_refl _, rfl, Lib.hid fun i h1 h2 => by omega, rfl⟩
  case round =>
    obtain ⟨k, hk, rfl, hp, rfl⟩ := hrel
    cases k with
    | zero =>
      exfalso
      have := hp.out 0 (Nat.le_refl _) (by omega)
      have e0 : lengthF 0 = 3 := by decide
      have := HN.out
      omega
    | succ k =>
      have ek : (((k + 1 : Nat) : Int) - 1) = (k : Int) := by omega
      rw [ek]
      have hki : (k : Int) < 29 := by omega
      have c0 := HR.out.1.cell k (by omega)
      obtain ⟨v, hv⟩ : ∃ v, lengthF k = v := ⟨_, rfl⟩
      rw [hv] at c0
      by_cases hle : v ≤ n
      · have hlei : (v : Int) ≤ (n : Int) := by omega
        have HU := Lib.hid (upto_eq (upto_lengths n k (by omega) (by rw [hv]; exact hle) hp.out))
        have HV := Lib.hid hv
        clear hv hp ek hle hk
        go_wp2_with fail
        refine wp_region_quiet_lit (by kernel_rfl) (by kernel_rfl) ?_
        repeat go_big_quiet_step (fail)
        refine wpQuiet_nil ?_
        intro _ hw'
        obtain ⟨nq, hw''⟩ := hw'
        subst hw''
        go_wp2_with fail
        go_ret2
        have e1 : lenSym n = 257 + k := by unfold lenSym; rw [HU.out]; omega
        have e2 : leastN (257 + k) = v := HV.out
        rw [e1, e2]
        refine ⟨?_, HR.out.2.trans (Fr.drewN _ _ _)⟩
        have e3 : ((257 + k : Nat) : Int) = 257 + (k : Int) := by omega
        have e4 : ((n - v : Nat) : Int) = (n : Int) - (v : Int) := by omega
        rw [e3, e4]
        rfl
      · have hlei : ¬ (v : Int) ≤ (n : Int) := by omega
        have HV := Lib.hid hv
        have HP := Lib.hid (And.intro hp.out hle)
        clear hv hp ek hle
        go_wp2_with fail
        exact ⟨⟨k, by omega, rfl, Lib.hid (fun i h1 h2 => by
          by_cases hi : i = k
          · subst hi; have := HV.out; have := HP.out.2; omega
          · exact HP.out.1 i (by omega) h2), trivial⟩, by simp [intOf]⟩
set_option maxRecDepth 100000 in
theorem dists_ok (w : World) : Calls Tryz.prog 97 #[] w fun e w' => e = .returned (.slice (some ⟨w.heap.size, 0, none⟩) 30 30) ∧ Nrow w' w.heap.size 3 .i64 30 distF ∧ Fr [] w w' := by
  go_enter Tryz.func97, Tryz.ntmps97
  go_wp2_with fail
  go_ret
  refine ⟨rfl, ?_, Fr.alloc _ _ _⟩
  unfold Nrow
  rw [alloc_last]
  congr 2
theorem upto_dists (n k : Nat) (hk : k < 30) (h1 : distF k ≤ n) (h2 : ∀ i, k + 1 ≤ i → i < 30 → n < distF i) : Upto distF 30 n (k + 1) :=
  ⟨by omega, fun i hi => Nat.le_trans (near_up i (by omega) k (by omega) (by omega)) h1, h2⟩
set_option maxRecDepth 100000 in
set_option maxHeartbeats 3200000 in
theorem refDist_ok (n : Nat) (w : World) (h3 : 1 ≤ n) (h258 : n ≤ 32768) : Calls Tryz.prog 69 #[.int .i64 (n : Int)] w fun e w' => e = .returned (.tuple #[.int .i64 ((distSym n : Nat) : Int), .int .i64 ((n - nearN (distSym n) : Nat) : Int)]) ∧ Fr [] w w' := by
  have h3i : (1 : Int) ≤ (n : Int) := by omega
  have h4i : (n : Int) ≤ 32768 := by omega
  have HN := Lib.hid (And.intro h3 h258)
  clear h3 h258
  go_enter Tryz.func69, Tryz.ntmps69
  go_wp2_with fail
  refine (dists_ok w).mono ?_
  rintro e w1 ⟨rfl, hr, f1⟩
  have HR := Lib.hid (And.intro hr f1)
  clear hr f1
  go_wp2_with fail
  go_loopw [5] (fun v5 wr => ∃ k : Nat, k ≤ 30 ∧ v5 = .int .i64 ((k : Int) - 1) ∧ Hid (∀ i, k ≤ i → i < 30 → n < distF i) ∧ wr = w1) (fun v5 _ => (intOf v5 + 1).toNat)
  case atStart => exact ⟨30, Nat.le_refl _, rfl, Lib.hid fun i h1 h2 => by omega, rfl⟩
  case round =>
    obtain ⟨k, hk, rfl, hp, rfl⟩ := hrel
    cases k with
    | zero =>
      exfalso
      have := hp.out 0 (Nat.le_refl _) (by omega)
      have e0 : distF 0 = 1 := by decide
      have := HN.out
      omega
    | succ k =>
      have ek : (((k + 1 : Nat) : Int) - 1) = (k : Int) := by omega
      rw [ek]
      have hki : (k : Int) < 30 := by omega
      have c0 := HR.out.1.cell k (by omega)
      obtain ⟨v, hv⟩ : ∃ v, distF k = v := ⟨_, rfl⟩
      rw [hv] at c0
      by_cases hle : v ≤ n
      · have hlei : (v : Int) ≤ (n : Int) := by omega
        have HU := Lib.hid (upto_eq (upto_dists n k (by omega) (by rw [hv]; exact hle) hp.out))
        have HV := Lib.hid hv
        clear hv hp ek hle hk
        go_wp2_with fail
        refine wp_region_quiet_lit (by kernel_rfl) (by kernel_rfl) ?_
        repeat go_big_quiet_step (fail)
        refine wpQuiet_nil ?_
        intro _ hw'
        obtain ⟨nq, hw''⟩ := hw'
        subst hw''
        go_wp2_with fail
        go_ret2
        have e1 : distSym n = k := by unfold distSym; rw [HU.out]; omega
        have e2 : nearN k = v := HV.out
        rw [e1, e2]
        refine ⟨?_, HR.out.2.trans (Fr.drewN _ _ _)⟩
        have e4 : ((n - v : Nat) : Int) = (n : Int) - (v : Int) := by omega
        rw [e4]
        rfl
      · have hlei : ¬ (v : Int) ≤ (n : Int) := by omega
        have HV := Lib.hid hv
        have HP := Lib.hid (And.intro hp.out hle)
        clear hv hp ek hle
        go_wp2_with fail
        exact ⟨⟨k, by omega, rfl, Lib.hid (fun i h1 h2 => by
          by_cases hi : i = k
          · subst hi; have := HV.out; have := HP.out.2; omega
          · exact HP.out.1 i (by omega) h2), trivial⟩, by simp [intOf]⟩
end Go.Proofs.YtciejmlhdmjajaaGreat
namespace Go.Proofs.YtciejmlhdmjajaaGreat
open Go.RowKit
set_option linter.unusedVariables false
set_option linter.unusedSimpArgs false

def SyR (s : Sy) : List Value := [.bool s.dist, .int .i64 (s.n : Int), .int .i64 (s.extra : Int), .int .i64 (s.bits : Int)]
theorem symElem : Elem Tryz.prog 103 106 4 32 := by
  refine ⟨Tryz.underlying103, ?_⟩
  obtain ⟨i, h1, h2, h3, h4⟩ := info_parts (show (Tryz.prog.info? 106).map (fun i => (i.zero, i.size, i.bytes)) = some (some (.agg #[.bool false, .int .i64 0, .int .i64 0, .int .i64 0]), 4, 32) by kernel_rfl)
  exact ⟨i, _, h1, h2, h3, h4, rfl, by omega⟩
/-- The row of symbols, as far as they have come. -/
def SyRow (w : World) (L : List Sy) (v : Value) (wr : World) : Prop := wr.ownsRow w.heap.size 106 4 v L.length (L.flatMap SyR) ∧ Below w.heap.size w wr
theorem own_base {w : World} {B : Nat} {e : TypeId} {sz n c : Nat} {a : Addr} {xs : List Value} (h : w.ownsRow B e sz (.slice (some a) n c) n xs) : B ≤ a.block := by
  rcases h.2 with ⟨h1, _⟩ | ⟨g, cap, cur, h1, hb, _⟩
  · cases h1
  · cases h1; exact hb
set_option maxRecDepth 100000 in
set_option maxHeartbeats 6400000 in
theorem refSyms_ok (a : Option Addr) (c : Nat) (l : List Tok) (w : World) (hs : SlOf Tok.enc Tok.sz w a l) (hl : l.length ≤ 100000) (hok : ∀ t ∈ l, t.ok) (hmay : ∀ t ∈ l, t.may = true) :
    Calls Tryz.prog 49 #[.slice a l.length c] w fun e w' => ∃ ao co, e = .returned (.slice ao (symsL l).length co) ∧ SlOf SyR 4 w' ao (symsL l) ∧ Fr [] w w' ∧ ∀ b, ao = some b → w.heap.size ≤ b.block := by
  have HB := Lib.hid (And.intro hs (And.intro hl (And.intro hok hmay)))
  have hli : (l.length : Int) ≤ 100000 := by omega
  clear hs hl hok hmay
  go_enter Tryz.func49, Tryz.ntmps49
  go_wp2_with fail
  go_loopw [3, 4] (fun v3 v4 wr => ∃ k : Nat, k ≤ l.length ∧ v4 = .int .i64 (k : Int) ∧ SyRow w ((l.take k).flatMap Tok.syms) v3 wr) (fun _ v4 _ => l.length - (intOf v4).toNat)
  case atStart => exact ⟨0, by omega, rfl, World.ownsRow_nil _ _ _ _, Below.refl _ _⟩
  case round =>
    obtain ⟨k, hk, rfl, hrow, hf⟩ := hrel
    obtain ⟨ao, co, rfl⟩ := row_form hrow
    obtain ⟨L, hL⟩ : ∃ L, (l.take k).flatMap Tok.syms = L := ⟨_, rfl⟩
    have hLl : L.length ≤ 200001 := by
      rw [← hL]
      have h1 := symsL_len (l.take k)
      unfold symsL at h1
      rw [List.length_append, List.length_take] at h1
      have := HB.out.2.1
      simp only [List.length_cons, List.length_nil] at h1
      omega
    rw [hL] at hrow
    rw [hL]
    by_cases hlt : k < l.length
    · have hki : (k : Int) < (l.length : Int) := by omega
      obtain ⟨m, hm⟩ : ∃ m, l[k]? = some m := ⟨l[k], List.getElem?_eq_getElem hlt⟩
      obtain ⟨b, o, rfl, hbl, hcell⟩ := (HB.out.1.below hf) (by intro h; rw [h] at hlt; simp at hlt)
      obtain ⟨lit, len, dist⟩ := m
      have k0 := hcell k _ hm 0 (.int .u8 (lit : Int)) rfl
      have k1 := hcell k _ hm 1 (.int .i64 len) rfl
      have k2 := hcell k _ hm 2 (.int .i64 dist) rfl
      simp only [Nat.add_zero, Tok.sz] at k0 k1 k2
      rw [← Nat.add_assoc] at k1 k2
      have hmem := List.mem_of_getElem? hm
      have ht := HB.out.2.2.2 _ hmem
      have htok := HB.out.2.2.1 _ hmem
      have HT := Lib.hid (show (l.take (k + 1)).flatMap Tok.syms = L ++ Tok.syms ⟨lit, len, dist⟩ by rw [List.take_add_one, hm, List.flatMap_append, hL]; simp)
      clear hcell hm
      by_cases h0 : len = 0
      · subst h0
        have hlit : (lit : Int) ≤ 255 := by have := htok.1; simp only at this; omega
        have HE := Lib.hid (show Tok.syms ⟨lit, 0, dist⟩ = [⟨false, lit, 0, 0⟩] by unfold Tok.syms; simp)
        have R0 := Lib.hid hrow
        have R1 := Lib.hid hf
        have R2 := Lib.hid hf.size
        clear hrow hf ht htok hmem hL
        go_wp2_with (at_builtin; go_must (refine wpList_push w.heap.size w wr rfl (.tmp 21) (.tmp 29) 103 rfl 106 4 32 symElem (.slice ao L.length co) L.length _ rfl R0 R1 R2.out #[.bool false, .int .i64 (lit : Int), .int .i64 0, .int .i64 0] 1 1 rfl rfl rfl (by omega) (by omega) (by omega) ?_); intro g6 c6 w6 HQ)
        refine ⟨⟨k + 1, by omega, by go_num, ?_⟩, by simp [intOf]; omega⟩
        rw [HT.out, HE.out]
        refine ⟨?_, HQ.out.below⟩
        rw [List.length_append, List.flatMap_append]
        exact HQ.out.own
      · have hm3 : 3 ≤ len ∧ len ≤ 258 ∧ 1 ≤ dist ∧ dist ≤ 32768 ∧ lit = 0 := by
          rcases Tok.may_cases ht with ⟨h1, _⟩ | ⟨_, h1, h2, h3, h4, h5⟩
          · exact absurd h1 h0
          · exact ⟨h1, h2, h3, h4, h5⟩
        obtain ⟨N, rfl⟩ : ∃ N : Nat, len = (N : Int) := ⟨len.toNat, by omega⟩
        obtain ⟨D, rfl⟩ : ∃ D : Nat, dist = (D : Int) := ⟨dist.toNat, by omega⟩
        have hN : (N : Int) ≤ 258 := by omega
        have hN3 : 3 ≤ (N : Int) := by omega
        have hD : (D : Int) ≤ 32768 := by omega
        have hD1 : 1 ≤ (D : Int) := by omega
        have hNb : ((N : Int) == 0) = false := by rw [beq_eq_false_iff_ne]; exact h0
        have hla := len_all N (by omega) (by omega)
        have hda := dist_all D (by omega) (by omega)
        have HLn := Lib.hid (fun W => refLength_ok N W (by omega) (by omega))
        have HDn := Lib.hid (fun W => refDist_ok D W (by omega) (by omega))
        have HLb := Lib.hid (fun W => refLengthBits_ok (lenSym N) W (by omega) (by omega))
        have HDb := Lib.hid (fun W => refDistBits_ok (distSym D) W (by omega))
        have HE := Lib.hid (show Tok.syms ⟨lit, N, D⟩ = [⟨false, lenSym N, N - leastN (lenSym N), lbN (lenSym N)⟩, ⟨true, distSym D, D - nearN (distSym D), dbN (distSym D)⟩] by unfold Tok.syms; simp only; rw [if_neg h0]; rfl)
        have HRW := Lib.hid (And.intro hrow hf)
        clear ht htok hmem hm3 h0 hrow hf hL hla hda
        generalize N - leastN (lenSym N) = e1 at HLn HE
        generalize lbN (lenSym N) = b1 at HLb HE
        generalize lenSym N = s1 at HLn HLb HE
        generalize D - nearN (distSym D) = e2 at HDn HE
        generalize dbN (distSym D) = b2 at HDb HE
        generalize distSym D = s2 at HDn HDb HE
        go_wp2_with fail
        refine (HLn.out _).mono ?_
        rintro e w2 ⟨rfl, f2⟩
        have F2 := Lib.hid f2
        have k2' : w2.cell? ⟨b, o + k * 3 + 2, none⟩ = some (.int .i64 (D : Int)) := by unfold World.cell? at k2 ⊢; rw [f2.block b hbl (by simp)]; exact k2
        have hbl2 : b < w2.heap.size := Nat.lt_of_lt_of_le hbl f2.size
        clear f2 k0 k1 k2
        go_wp2_with fail
        refine (HDn.out _).mono ?_
        rintro e w3 ⟨rfl, f3⟩
        have F3 := Lib.hid (F2.out.trans f3)
        clear f3 k2'
        go_wp2_with fail
        refine (HLb.out _).mono ?_
        rintro e w4 ⟨rfl, hw4⟩
        replace hw4 := hw4.symm
        subst hw4
        have hB3 : Below w.heap.size w w3 := HRW.out.2.trans (F3.out.below.mono HRW.out.2.size)
        have R0 := Lib.hid (show w3.ownsRow w.heap.size 106 4 (.slice ao L.length co) L.length (L.flatMap SyR) from ownsRow_to HRW.out.1 F3.out (by simp))
        have R1 := Lib.hid hB3
        have R2 := Lib.hid hB3.size
        clear hB3
        go_wp2_with (at_builtin; go_must (refine wpList_push w.heap.size w w3 rfl (.tmp 49) (.tmp 55) 103 rfl 106 4 32 symElem (.slice ao L.length co) L.length _ rfl R0 R1 R2.out #[.bool false, .int .i64 (s1 : Int), .int .i64 (e1 : Int), .int .i64 (b1 : Int)] 1 1 rfl rfl rfl (by omega) (by omega) (by omega) ?_); intro g6 c6 w6 HQ)
        refine (HDb.out _).mono ?_
        rintro e w7 ⟨rfl, hw7⟩
        replace hw7 := hw7.symm
        subst hw7
        have P0 := Lib.hid HQ.out.own
        have P1 := Lib.hid HQ.out.below
        have P2 := Lib.hid HQ.out.below.size
        go_wp2_with (at_builtin; go_must (refine wpList_push w.heap.size w w6 rfl (.tmp 57) (.tmp 63) 103 rfl 106 4 32 symElem (.slice (some ⟨g6, 0, none⟩) (L.length + 1) c6) (L.length + 1) _ rfl P0 P1 P2.out #[.bool true, .int .i64 (s2 : Int), .int .i64 (e2 : Int), .int .i64 (b2 : Int)] 1 1 rfl rfl rfl (by omega) (by omega) (by omega) ?_); intro g8 c8 w8 HQ8)
        refine ⟨⟨k + 1, by omega, by go_num, ?_⟩, by simp [intOf]; omega⟩
        rw [HT.out, HE.out]
        refine ⟨?_, HQ8.out.below⟩
        rw [List.length_append, List.flatMap_append]
        have h8 := HQ8.out.own
        rw [List.append_assoc] at h8
        exact h8
    · have hke : k = l.length := by omega
      subst hke
      rw [List.take_of_length_le (Nat.le_refl _)] at hL
      have HS := Lib.hid (show symsL l = L ++ [endSy] by unfold symsL; rw [hL])
      have R0 := Lib.hid hrow
      have R1 := Lib.hid hf
      have R2 := Lib.hid hf.size
      clear hrow hf hL
      go_wp2_with (at_builtin; go_must (refine wpList_push w.heap.size w wr rfl (.tmp 65) (.tmp 67) 103 rfl 106 4 32 symElem (.slice ao L.length co) L.length _ rfl R0 R1 R2.out #[.bool false, .int .i64 256, .int .i64 0, .int .i64 0] 1 1 rfl rfl rfl (by omega) (by omega) (by omega) ?_); intro g6 c6 w6 HQ)
      go_ret
      rw [HS.out, List.length_append]
      have h6 : w6.ownsRow w.heap.size 106 4 (.slice (some ⟨g6, 0, none⟩) (L.length + 1) c6) (L.length + 1) ((L ++ [endSy]).flatMap SyR) := by rw [List.flatMap_append]; exact HQ.out.own
      obtain ⟨a0, cap, h1, h2⟩ := slOf_own (enc := SyR) (fun _ => rfl) h6 (by rw [List.length_append]; rfl)
      have h3 : (L ++ [endSy]).length = L.length + 1 := by rw [List.length_append]; rfl
      rw [h3] at h1
      cases h1
      exact ⟨_, ⟨_, rfl⟩, h2, Fr.of_below HQ.out.below, fun b hb => by cases hb; exact own_base h6⟩
end Go.Proofs.YtciejmlhdmjajaaGreat

