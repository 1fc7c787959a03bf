/- The document's writer: whole bytes, and the text. -/
import Derived.Test.YtlognooioemenaaBz
import Derived.Test.YtlognooioemenaaW
namespace Go.Proofs.Ytlognooioemenaa
open Go.RowKit
set_option linter.unusedVariables false
set_option linter.unusedSimpArgs false

theorem numL_step (s : ByteArray) (k : Nat) (h : k < s.size) : numL (s.data.toList.take (k + 1)) = numL (s.data.toList.take k) + 2 ^ (8 * k) * (s[k]).toNat := by
  have hl : k < s.data.toList.length := by simpa using h
  rw [List.take_succ_eq_append_getElem hl, numL_append, List.length_take, Nat.min_eq_left (by omega), pow256]
  simp [numL]
  rfl
theorem bytes_step (s : ByteArray) (N M k : Nat) (h : k < s.size) : N + numL (s.data.toList.take k) * 2 ^ M + (s[k]).toNat * 2 ^ (M + 8 * k) = N + numL (s.data.toList.take (k + 1)) * 2 ^ M := by
  rw [numL_step s k h, Nat.pow_add, Nat.add_mul, ← Nat.add_assoc]
  congr 1
  rw [Nat.mul_comm (2 ^ M), ← Nat.mul_assoc, Nat.mul_comm ((s[k]).toNat)]

set_option maxRecDepth 100000 in
set_option maxHeartbeats 1600000 in
theorem xwbytes_any (b : Nat) (v : Value) (N L most : Nat) (s : ByteArray) (w : World) (hw : Wx w b v N L most) (hL : L ≤ 100000000) (hs : s.size ≤ 10000000) (hm : most ≤ 9223372036854775807) :
    Calls Try.prog 60 #[.pointer (some ⟨b, 0, none⟩), .string s] w fun e w' => e = .returned (.int .i64 (wbytesE L most s)) ∧
      ∃ v', Wx w' b v' (if wbytesE L most s = 0 then N + num s * 2 ^ (L + pad L) else N) (if wbytesE L most s = 0 then L + pad L + 8 * s.size else L) most ∧ NewRow w v v' ∧ Fr (wfp b v) w w' := by
  have c0 := hw.c0
  have c1 := hw.c1
  have i1 : (L : Int) ≤ 100000000 := by omega
  have i2 : (s.size : Int) ≤ 10000000 := by omega
  have i3 : (most : Int) ≤ 9223372036854775807 := by omega
  obtain ⟨ao, cap, rfl⟩ := hw.form
  have HW := Lib.hid hw
  clear hw
  by_cases hfit : (L + 7) / 8 + s.size ≤ most
  · have e : wbytesE L most s = 0 := by unfold wbytesE; rw [if_pos hfit]
    have hd : decide ((most : Int) < ((L : Int) + 7) / 8 + (s.size : Int)) = false := by apply decide_eq_false; omega
    rw [e]
    obtain ⟨M, hM⟩ : ∃ M, L + pad L = M := ⟨_, rfl⟩
    have hM2 : M / 8 + s.size ≤ most ∧ M % 8 = 0 ∧ M ≤ 200000000 := by rw [← hM]; unfold pad; omega
    clear e hfit
    rw [hM]
    go_enter Try.func60, Try.ntmps60
    go_wp2_with fail
    go_quiet (fail)
    go_wp2_with fail
    refine (xwalign_any b _ N L most _ (HW.out.to (Fr.drewN [] _ _) (by simp)) (by omega)).mono ?_
    rintro e w1 ⟨rfl, v1, hX1, hN1, hF1⟩
    rw [hM] at hX1
    replace hN1 : NewRow w _ v1 := hN1
    replace hF1 := (Fr.drewN _ w _).trans hF1
    have HM := Lib.hid (And.intro hM hM2)
    clear hM hM2
    go_wp2_with fail
    go_loopw [5] (fun i wr => ∃ (k : Nat) (v' : Value), k ≤ s.size ∧ i = .int .i64 k ∧ Wx wr b v' (N + numL (s.data.toList.take k) * 2 ^ M) (M + 8 * k) most ∧ NewRow w (.slice ao L cap) v' ∧ Fr (wfp b (.slice ao L cap)) w wr) (fun i _ => s.size - (intOf i).toNat)
    case atStart => exact ⟨0, v1, Nat.zero_le _, rfl, by simpa [numL] using hX1, hN1, hF1⟩
    case round =>
      obtain ⟨k, v', hk, rfl, hX, hN, hF⟩ := hrel
      by_cases hlt : k < s.size
      · have hix := run_index_text (P := Try.prog) wr 9 s .i64 k Try.underlying9 hlt
        have hst := bytes_step s N M k hlt
        obtain ⟨y, hy⟩ : ∃ y, (s[k]).toNat = y := ⟨_, rfl⟩
        have hy8 : y < 256 := by rw [← hy]; exact (s[k]).toNat_lt
        rw [hy] at hix hst
        have hwr : IntKind.u64.wrap (y : Int) = (y : Int) := by rw [IntKind.wrap_u64]; omega
        have hroom : roomB (M + 8 * k) 8 most = true := by unfold roomB; apply decide_eq_true; have := HM.out.2; omega
        have HY := Lib.hid (And.intro hy (And.intro hst hroom))
        have HX := Lib.hid hX
        clear hst hroom hX hy
        go_wp2_with fail
        refine (xwbits_ok b v' _ (M + 8 * k) most y 8 _ HX.out (by have := HM.out.2; omega) hm (by decide) hy8 HY.out.2.2).mono ?_
        rintro e w4 ⟨rfl, v4, hX4, hN4, hF4⟩
        rw [HY.out.2.1] at hX4
        go_wp2_with fail
        go_roundw
        case rel => exact ⟨k + 1, v4, by omega, by go_num, hX4, hN.trans hN4 hF.size, hN.out hF hF4⟩
        case measure => simp [intOf]; omega
      · have hke : k = s.size := by omega
        subst hke
        rw [List.take_of_length_le (by simp)] at hX
        have HX := Lib.hid hX
        clear hX
        go_wp2_with fail
        go_ret
        exact ⟨rfl, v', HX.out, hN, hF⟩
  · have e : wbytesE L most s = 4 := by unfold wbytesE; rw [if_neg hfit]
    have hd : decide ((most : Int) < ((L : Int) + 7) / 8 + (s.size : Int)) = true := by apply decide_eq_true; omega
    rw [e]
    clear e hfit
    go_enter Try.func60, Try.ntmps60
    go_wp2_with fail
    go_quiet (fail)
    go_wp2_with fail
    go_ret
    exact ⟨rfl, _, HW.out.to (Fr.drewN [] _ _) (by simp), NewRow.refl _ _, Fr.drewN _ _ _⟩

/-- A row of noughts that is made. -/
theorem run_make_bytes (w : World) (n : Nat) (hn : n ≤ 1000000000) : (Instr.makeSlice 50 (.int .i64 (n : Int)) (.int .i64 (n : Int))).run Try.prog w =
    .ok (.slice (some ⟨w.heap.size, 0, none⟩) n n) (w.alloc (.cells (Lib.byteCells (List.replicate n 0)).toArray 5)) := by
  obtain ⟨i0, hi, hz0, hz1, hz2⟩ := u8info
  have h := run_make (P := Try.prog) w 50 5 i0 (.int .u8 0) Try.underlying50 hi hz0 .i64 .i64 n n (by omega) (Int.le_refl _) (by rw [hz2]; omega) (by omega)
  rw [h]
  have e : madeCells (Value.cells (.int .u8 0)) ((n : Int).toNat * i0.size) = (Lib.byteCells (List.replicate n 0)).toArray := by
    rw [hz1, Nat.mul_one, Int.toNat_natCast]
    apply Array.ext
    · rw [size_madeCells]; simp [Lib.byteCells]
    · intro i h1 h2
      simp [madeCells, Lib.byteCells, Value.cells, Nat.mod_one]
  rw [e, Int.toNat_natCast]

theorem leb_set (X q k : Nat) (hX : X < 2 ^ k) (hk : k < 8 * q) : (lebL X q)[k / 8]? = some (UInt8.ofNat (X / 2 ^ (8 * (k / 8)))) ∧ X / 2 ^ (8 * (k / 8)) + 2 ^ (k % 8) < 256 ∧
    (lebL X q).set (k / 8) (UInt8.ofNat (X / 2 ^ (8 * (k / 8)) + 2 ^ (k % 8))) = lebL (X + 2 ^ k) q := by
  obtain ⟨j, hj⟩ : ∃ j, k / 8 = j := ⟨_, rfl⟩
  obtain ⟨m, hm⟩ : ∃ m, k % 8 = m := ⟨_, rfl⟩
  have hkj : k = 8 * j + m := by omega
  have e0 : (2:Nat) ^ k = 2 ^ (8 * j) * 2 ^ m := by rw [hkj, Nat.pow_add]
  have hm7 : (2:Nat) ^ m ≤ 2 ^ 7 := Nat.pow_le_pow_right (by decide) (by omega)
  have hy : X / 2 ^ (8 * j) < 2 ^ m := by rw [Nat.div_lt_iff_lt_mul (Nat.pow_pos (by decide)), Nat.mul_comm, ← e0]; exact hX
  obtain ⟨r, hr⟩ : ∃ r, q = j + (r + 1) := ⟨q - j - 1, by omega⟩
  have e1 : lebL (X + 2 ^ k) j = lebL X j := by
    have := lebL_same X (2 ^ m) (8 * j)
    rw [show 8 * j / 8 = j by omega, Nat.mul_comm, ← e0] at this
    exact this
  have e2 : (X + 2 ^ k) / 256 ^ j = X / 2 ^ (8 * j) + 2 ^ m := by
    rw [pow256, e0, Nat.add_mul_div_left _ _ (Nat.pow_pos (by decide))]
  rw [hj, hm]
  refine ⟨?_, by omega, ?_⟩
  · rw [hr, lebL_add, List.getElem?_append_right (by rw [length_lebL]; exact Nat.le_refl _), length_lebL, Nat.sub_self, pow256]
    rfl
  · rw [hr, lebL_add X j (r + 1), lebL_add (X + 2 ^ k) j (r + 1), e1, e2, List.set_append_right _ _ (by rw [length_lebL]; exact Nat.le_refl _), length_lebL, Nat.sub_self, pow256]
    simp only [lebL, List.set_cons_zero]
    rw [Nat.div_eq_of_lt (show X / 2 ^ (8 * j) < 256 by omega), Nat.div_eq_of_lt (show X / 2 ^ (8 * j) + 2 ^ m < 256 by omega)]
theorem lebL_zero (q : Nat) : lebL 0 q = List.replicate q 0 := by
  induction q with
  | zero => rfl
  | succ q ih => simp [lebL, ih, List.replicate_succ]
theorem bit_mod (N k : Nat) : N % 2 ^ (k + 1) = N % 2 ^ k + 2 ^ k * (N / 2 ^ k % 2) := by rw [Nat.pow_succ, Nat.mod_mul]

set_option maxRecDepth 100000 in
set_option maxHeartbeats 1600000 in
theorem xwtext_any (b : Nat) (v : Value) (N L most : Nat) (w : World) (hw : Wx w b v N L most) (hL : L ≤ 1000000000) :
    Calls Try.prog 36 #[.pointer (some ⟨b, 0, none⟩)] w fun e w' => e = .returned (.string (wtext N L)) ∧ Fr [] w w' := by
  have c0 := hw.c0
  obtain ⟨ao, cap, rfl⟩ := hw.form
  have i1 : (L : Int) ≤ 1000000000 := by omega
  obtain ⟨q, hq⟩ : ∃ q, (L + 7) / 8 = q := ⟨_, rfl⟩
  have hq' : ((L : Int) + 7) / 8 = (q : Int) := by omega
  have hmk := run_make_bytes w q (by omega)
  have HW := Lib.hid hw
  have HQ := Lib.hid hq
  have i2 : (q : Int) ≤ 1000000000 := by omega
  have hn := new_of w (.cells (Lib.byteCells (List.replicate q 0)).toArray 5)
  have hf : Fr [] w (w.alloc (.cells (Lib.byteCells (List.replicate q 0)).toArray 5)) := Fr.alloc _ _ _
  have HN := Lib.hid (And.intro hn hf)
  clear hw hq hn hf
  go_enter Try.func36, Try.ntmps36
  go_wp2_with fail
  go_loopw [4] (fun i wr => ∃ k : Nat, k ≤ L ∧ i = .int .i64 k ∧ wr.heap[w.heap.size]? = some (.cells (Lib.byteCells (lebL (N % 2 ^ k) q)).toArray 5 (0, 0)) ∧ Fr [] w wr) (fun i _ => L - (intOf i).toNat)
  case atStart => exact ⟨0, Nat.zero_le _, rfl, by rw [Nat.pow_zero, Nat.mod_one, lebL_zero]; exact HN.out.1, HN.out.2⟩
  case round =>
    obtain ⟨k, hk, rfl, hblk, hF⟩ := hrel
    have hX := HW.out.to hF (by simp)
    have d0 := hX.c0
    by_cases hlt : k < L
    · obtain ⟨t, ht⟩ : ∃ t, N / 2 ^ k % 2 = t := ⟨_, rfl⟩
      have hcell : ∃ g, ao = some ⟨g, 0, none⟩ ∧ wr.cell? ⟨g, k, none⟩ = some (.int .u8 (t : Int)) := by
        rcases hX.row.2 with ⟨h, h0⟩ | ⟨g, cap', cur, h, _⟩
        · omega
        · have hg : ao = some ⟨g, 0, none⟩ := by injection h
          refine ⟨g, hg, ?_⟩
          have := hX.row.cells (g := g) (by rw [hg]; rfl) k (.int .u8 (t : Int)) (by
            have hb := bitL_get N L k hlt
            rw [ht] at hb
            have ht2 : t < 2 := by omega
            simp [Lib.byteCells, hb, Nat.mod_eq_of_lt (show t < 256 by omega)])
          rw [show (⟨g, 0, none⟩ : Addr).add k = ⟨g, 0 + k, none⟩ by unfold Addr.add; split <;> simp_all, Nat.zero_add] at this
          exact this
      obtain ⟨g, rfl, hck⟩ := hcell
      obtain ⟨j, hj⟩ : ∃ j, k / 8 = j := ⟨_, rfl⟩
      obtain ⟨m, hm⟩ : ∃ m, k % 8 = m := ⟨_, rfl⟩
      have hj' : (k : Int) / 8 = (j : Int) := by omega
      have hm' : (k : Int) % 8 = (m : Int) := by omega
      have hm8 : (m : Int) ≤ 7 := by omega
      have hjq : (j : Int) < (q : Int) := by have := HQ.out; omega
      have hjq' : j < q := by omega
      obtain ⟨s1, s2, s3⟩ := leb_set (N % 2 ^ k) q k (Nat.mod_lt _ (Nat.pow_pos (by decide))) (by have := HQ.out; omega)
      rw [hj, hm] at s2 s3
      rw [hj] at s1
      have hmod := bit_mod N k
      rw [ht] at hmod
      obtain ⟨y, hy⟩ : ∃ y, N % 2 ^ k / 2 ^ (8 * j) = y := ⟨_, rfl⟩
      rw [hy] at s1 s2 s3
      have hcj : wr.cell? ⟨w.heap.size, j, none⟩ = some (.int .u8 (y : Int)) := by
        have hp : 0 < 2 ^ m := Nat.pow_pos (by decide)
        rw [cell_of hblk]; simp [Lib.byteCells, s1, Nat.mod_eq_of_lt (show y < 256 by omega)]
      have hfj := free_of hblk j
      have hset := set_of hblk j (.int .u8 ((UInt8.ofNat (y + 2 ^ m)).toNat : Int))
      rw [byteCells_set, s3] at hset
      have HS := Lib.hid (And.intro hset (And.intro hmod (And.intro hy ht)))
      have HB := Lib.hid hblk
      have ht2 : t = 0 ∨ t = 1 := by omega
      clear s1 s3 hset hmod hy hX hblk ht hj hm hmk
      rcases ht2 with rfl | rfl
      · go_wp2_with fail
        go_roundw
        case rel => exact ⟨k + 1, by omega, by go_num, by rw [HS.out.2.1, Nat.mul_zero, Nat.add_zero]; exact HB.out, hF⟩
        case measure => simp [intOf]; omega
      · go_wp2_with fail
        have he : ((y : Int) + 2 ^ m) % 256 = ((UInt8.ofNat (y + 2 ^ m)).toNat : Int) := by simp
        go_roundw
        case rel => exact ⟨k + 1, by omega, by go_num, by rw [HS.out.2.1, Nat.mul_one, he]; exact HS.out.1, (Fr.setCell _ _ _ _).outL hF (by simp)⟩
        case measure => simp [intOf]; omega
    · have hke : k = L := by omega
      subst hke
      rw [Nat.mod_eq_of_lt hX.lt] at hblk
      have hcv := run_convert_cells wr 50 9 5 5 Try.underlying50 Try.underlying5 Try.underlying9 w.heap.size q q (lebL N q) hblk (by rw [length_lebL]; exact Nat.le_refl _)
      rw [List.take_of_length_le (by rw [length_lebL]; exact Nat.le_refl _)] at hcv
      have ht : (⟨(lebL N q).toArray⟩ : ByteArray) = wtext N k := by rw [wtext, HQ.out]; rfl
      rw [ht] at hcv
      clear hblk hX ht
      go_wp2_with fail
      go_ret
      exact ⟨rfl, hF⟩
end Go.Proofs.Ytlognooioemenaa
