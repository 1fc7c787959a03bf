/- Two writers side by side; the statement BitwPieces. -/
import Derived.Test.YtlognooioemenaaLa
import Derived.OpenShut
namespace Go.Proofs.Ytlognooioemenaa
open Go.RowKit
set_option linter.unusedVariables false
set_option linter.unusedSimpArgs false

/-- Two writers, both made since W, which share nothing. -/
structure Two (W w : World) (A : Nat) (va : Value) (N L mA : Nat) (B : Nat) (vb : Value) (M K mB : Nat) : Prop where
  a : Wr w A va N L mA
  b : Wr w B vb M K mB
  below : Below W.heap.size W w
  newA : ∀ i, i ∈ wfp A va → W.heap.size ≤ i
  newB : ∀ i, i ∈ wfp B vb → W.heap.size ≤ i
  dis : ∀ i, i ∈ wfp A va → i ∉ wfp B vb
theorem Two.quiet {W w w' : World} {A : Nat} {va : Value} {N L mA : Nat} {B : Nat} {vb : Value} {M K mB : Nat} (h : Two W w A va N L mA B vb M K mB) (f : Fr [] w w') : Two W w' A va N L mA B vb M K mB :=
  ⟨h.a.to f (by simp), h.b.to f (by simp), f.out h.below (by simp), h.newA, h.newB, h.dis⟩
theorem Two.stepA {W w w' : World} {A : Nat} {va va' : Value} {N L N' L' mA : Nat} {B : Nat} {vb : Value} {M K mB : Nat} (h : Two W w A va N L mA B vb M K mB) (k : Wr w' A va' N' L' mA) (n : NewRow w va va') (f : Fr (wfp A va) w w') :
    Two W w' A va' N' L' mA B vb M K mB :=
  ⟨k, h.b.to f (fun i hi ha => h.dis i ha hi), f.out h.below h.newA,
    fun i hi => by rcases n.mem i hi with h' | h'; exact h.newA i h'; have := h.below.size; omega, h.newB,
    fun i hi hb => by rcases n.mem i hi with h' | h'; exact h.dis i h' hb; have := h.b.st.lt i hb; omega⟩
theorem Two.stepB {W w w' : World} {A : Nat} {va : Value} {N L mA : Nat} {B : Nat} {vb vb' : Value} {M K M' K' mB : Nat} (h : Two W w A va N L mA B vb M K mB) (k : Wr w' B vb' M' K' mB) (n : NewRow w vb vb') (f : Fr (wfp B vb) w w') :
    Two W w' A va N L mA B vb' M' K' mB :=
  ⟨h.a.to f (fun i hi hb => h.dis i hi hb), k, f.out h.below h.newB, h.newA,
    fun i hi => by rcases n.mem i hi with h' | h'; exact h.newB i h'; have := h.below.size; omega,
    fun i hi hb => by rcases n.mem i hb with h' | h'; exact h.dis i hi h'; have := h.a.st.lt i hi; omega⟩
theorem Two.made {W w1 w2 : World} {mA mB : Nat} (f1 : Fr [] W w1) (h1 : Wr w1 W.heap.size (.slice none 0 0) 0 0 mA) (f2 : Fr [] w1 w2) (h2 : Wr w2 w1.heap.size (.slice none 0 0) 0 0 mB) :
    Two W w2 W.heap.size (.slice none 0 0) 0 0 mA w1.heap.size (.slice none 0 0) 0 0 mB :=
  ⟨h1.to f2 (by simp), h2, f2.out f1.below (by simp), by simp [wfp, Value.ownBlock], by have := f1.size; simp [wfp, Value.ownBlock, this], by have := lt_of h1.st.blk; simp [wfp, Value.ownBlock]; omega⟩

theorem wlen_fr (b : Nat) (v : Value) (N L most : Nat) (w : World) (hw : Wr w b v N L most) (hL : L ≤ 1000000000) :
    Calls Try.prog 30 #[.pointer (some ⟨b, 0, none⟩)] w fun e w' => e = .returned (.int .i64 L) ∧ Fr [] w w' :=
  (wlen_any b v N L most w hw hL).mono fun e w' ⟨he, n, hn⟩ => ⟨he, hn ▸ Fr.drewN _ _ _⟩

theorem and_maskN (n k : Nat) (hn : n < 2 ^ 64) (hk : k ≤ 56) : bits .and .u64 (n : Int) (maskN (k : Int) : Int) = ((n % 2 ^ k : Nat) : Int) := by
  have hm : maskN (k : Int) = 2 ^ k - 1 := by unfold maskN; rw [show min (k : Int).toNat 64 = k by omega]
  rw [hm]; exact and_mask n k hn (by omega)

theorem numL_snoc (a : List UInt8) (i : Nat) (h : i < a.length) : numL (a.take (i + 1)) = numL (a.take i) + (a[i]).toNat * 2 ^ (8 * i) := by
  rw [List.take_succ_eq_append_getElem h, numL_append, List.length_take, show min i a.length = i by omega, pow256]
  simp [numL, Nat.mul_comm]

theorem cut_sum (n c k L N : Nat) (hc : c ≤ k) : N + n % 2 ^ c * 2 ^ L + n / 2 ^ c * 2 ^ (L + c) = N + n * 2 ^ L := by
  have h := Nat.mod_add_div n (2 ^ c)
  rw [Nat.pow_add, Nat.add_assoc]
  congr 1
  conv => rhs; rw [← h]
  rw [Nat.add_mul]
  congr 1
  rw [Nat.mul_comm (2 ^ L), ← Nat.mul_assoc, Nat.mul_comm (n / 2 ^ c)]

set_option maxRecDepth 100000 in
set_option maxHeartbeats 4000000 in
theorem bitwPieces_walk (w : World) (n : Int) (w0 : (Lit.int .u64 n).wf = true) (a1 : Int) (w1 : (Lit.int .u8 a1).wf = true) (a2 : Int) (w2 : (Lit.int .u8 a2).wf = true) (a3 : Int) (w3 : (Lit.int .u8 a3).wf = true) (s : ByteArray) (w4 : s.size ≤ maxLen) :
    Calls Try.prog 4 #[.int .u64 n, .int .u8 a1, .int .u8 a2, .int .u8 a3, .string s] w fun e w' => e = .returned (.bool true) ∧ Below w.heap.size w w' := by
  by_cases hbig : 1024 < s.size
  · have hbig' : (1024 : Int) < (s.size : Int) := by omega
    clear w0 w1 w2 w3 w4
    go_enter Try.func4, Try.ntmps4
    go_wp2_with fail
    refine (alive02 w).mono ?_
    rintro e w' ⟨rfl, hb⟩
    go_wp2_with fail
    go_ret
    exact ⟨rfl, hb⟩
  obtain ⟨b0, b1⟩ := bounds_u64 w0
  obtain ⟨b2, b3⟩ := bounds_u8 w1
  obtain ⟨b4, b5⟩ := bounds_u8 w2
  obtain ⟨b6, b7⟩ := bounds_u8 w3
  clear w0 w1 w2 w3 w4
  obtain ⟨m, rfl⟩ := Int.eq_ofNat_of_zero_le b0
  have hm64 : m < 2 ^ 64 := by omega
  obtain ⟨k, hk⟩ : ∃ k : Nat, a1 % 57 = (k : Int) := ⟨(a1 % 57).toNat, by omega⟩
  have hk56 : k ≤ 56 := by omega
  obtain ⟨c, hc⟩ : ∃ c : Nat, a2 % ((k : Int) + 1) = (c : Int) := ⟨(a2 % ((k : Int) + 1)).toNat, by have := Int.emod_nonneg a2 (show (k : Int) + 1 ≠ 0 by omega); omega⟩
  have hck : c ≤ k := by have := Int.emod_lt_of_pos a2 (show 0 < (k : Int) + 1 by omega); omega
  obtain ⟨d, hd⟩ : ∃ d : Nat, a3 % 20 = (d : Int) := ⟨(a3 % 20).toNat, by omega⟩
  have hd20 : d < 20 := by omega
  obtain ⟨x, hx⟩ : ∃ x : Nat, m % 2 ^ k = x := ⟨_, rfl⟩
  have hxk : x < 2 ^ k := by rw [← hx]; exact Nat.mod_lt _ (Nat.pow_pos (by decide))
  have hx56 : (2:Nat) ^ k ≤ 2 ^ 56 := Nat.pow_le_pow_right (by decide) hk56
  have hand := and_maskN m k hm64 hk56
  rw [hx] at hand
  obtain ⟨y, hy⟩ : ∃ y : Nat, x % 2 ^ c = y := ⟨_, rfl⟩
  have hyc : y < 2 ^ c := by rw [← hy]; exact Nat.mod_lt _ (Nat.pow_pos (by decide))
  have hand2 := and_maskN x c (by omega) (by omega)
  rw [hy] at hand2
  obtain ⟨z, hz⟩ : ∃ z : Nat, x / 2 ^ c = z := ⟨_, rfl⟩
  have hzk : z < 2 ^ (k - c) := by
    rw [← hz, Nat.div_lt_iff_lt_mul (Nat.pow_pos (by decide)), ← Nat.pow_add, show k - c + c = k by omega]; exact hxk
  have hz' : (x : Int) / 2 ^ c = (z : Int) := by
    have hcc : ((2:Int) ^ c) = ((2 ^ c : Nat) : Int) := by simp
    rw [hcc, ← Int.natCast_ediv, hz]
  have HZ := Lib.hid hz'
  have HYZ := Lib.hid (And.intro hy hz)
  have HA1 := Lib.hid hand
  have HA2 := Lib.hid hand2
  have i1 : (k : Int) ≤ 56 := by omega
  have i2 : (c : Int) ≤ (k : Int) := by omega
  have i3 : (d : Int) < 20 := by omega
  have i4 : (s.size : Int) ≤ 1024 := by omega
  clear hbig hx hand hand2 hy hz hz'
  go_enter Try.func4, Try.ntmps4
  go_wp2_with fail
  refine (mask_any _ _).mono ?_
  rintro e wx ⟨rfl, rfl⟩
  have hand := HA1.out
  go_wp2_with fail
  refine (wnew_any 4096 wx (by decide)).mono ?_
  rintro e wa ⟨rfl, h1, f1⟩
  go_wp2_with fail
  refine (wnew_any 4096 wa (by decide)).mono ?_
  rintro e wb ⟨rfl, h2, f2⟩
  have ht := Two.made f1 h1 f2 h2
  replace ht : Two wx wb wx.heap.size (.slice none 0 0) 0 0 4096 wa.heap.size (.slice none 0 0) 0 0 4096 := ht
  have HT := Lib.hid ht
  clear h1 h2 ht hand
  go_wp2_with fail
  go_loopw [15] (fun i wr => ∃ (j N : Nat) (va vb : Value), j ≤ d ∧ i = .int .i64 j ∧ Two wx wr wx.heap.size va N j 4096 wa.heap.size vb N j 4096) (fun i _ => d - (intOf i).toNat)
  case atStart => exact ⟨0, 0, _, _, Nat.zero_le _, rfl, HT.out⟩
  case round =>
    obtain ⟨j, N, va, vb, hj, rfl, hT⟩ := hrel
    by_cases hlt : j < d
    · obtain ⟨u, hu⟩ : ∃ u : Nat, j % 2 = u := ⟨_, rfl⟩
      have hu' : (j : Int) % 2 = (u : Int) := by omega
      have hu2 : u < 2 ^ 1 := by omega
      have hu3 : (u : Int) < 2 := by omega
      have hb1 : roomB j 1 4096 = true := by unfold roomB; apply decide_eq_true; omega
      have HB1 := Lib.hid hb1
      clear hu hb1
      go_wp2_with fail
      refine (wbits_ok wx.heap.size va N j 4096 u 1 _ hT.a (by omega) (by decide) (by decide) hu2 HB1.out).mono ?_
      rintro e w3 ⟨rfl, va', k3, n3, g3⟩
      have hT3 := hT.stepA k3 n3 g3
      go_wp2_with fail
      refine (wbits_ok wa.heap.size vb N j 4096 u 1 _ hT3.b (by omega) (by decide) (by decide) hu2 HB1.out).mono ?_
      rintro e w4 ⟨rfl, vb', k4, n4, g4⟩
      have hT4 := hT3.stepB k4 n4 g4
      go_wp2_with fail
      go_roundw
      case rel => exact ⟨j + 1, _, va', vb', by omega, by go_num, hT4⟩
      case measure => simp [intOf]; omega
    · have hjd : j = d := by omega
      subst hjd
      have hrk : roomB j k 4096 = true := by unfold roomB; apply decide_eq_true; omega
      have hrc : roomB j c 4096 = true := by unfold roomB; apply decide_eq_true; omega
      have hrkc : roomB (j + c) (k - c) 4096 = true := by unfold roomB; apply decide_eq_true; omega
      have HRK := Lib.hid (And.intro hrk (And.intro hrc hrkc))
      clear hrk hrc hrkc
      go_wp2_with fail
      refine (wbits_ok wx.heap.size va N j 4096 x k _ hT.a (by omega) (by decide) hk56 hxk HRK.out.1).mono ?_
      rintro e w3 ⟨rfl, va', k3, n3, g3⟩
      have hT3 := hT.stepA k3 n3 g3
      go_wp2_with fail
      refine (mask_any _ _).mono ?_
      rintro e w4 ⟨rfl, rfl⟩
      have hand2 := HA2.out
      go_wp2_with fail
      refine (wbits_ok wa.heap.size vb N j 4096 y c _ hT3.b (by omega) (by decide) (by omega) hyc HRK.out.2.1).mono ?_
      rintro e w5 ⟨rfl, vb', k5, n5, g5⟩
      have hT5 := hT3.stepB k5 n5 g5
      have hz2 := HZ.out
      go_wp2_with fail
      rw [show ((k : Int) - (c : Int)) = ((k - c : Nat) : Int) by omega]
      refine (wbits_ok wa.heap.size vb' _ (j + c) 4096 z (k - c) _ hT5.b (by omega) (by decide) (by omega) hzk HRK.out.2.2).mono ?_
      rintro e w6 ⟨rfl, vb2, k6, n6, g6⟩
      have hT6 := hT5.stepB k6 n6 g6
      rw [show j + c + (k - c) = j + k by omega, ← HYZ.out.1, ← HYZ.out.2, cut_sum x c k j N hck] at hT6
      generalize N + x * 2 ^ j = N1 at *
      clear hT hT3 hT5 k3 k5 k6 n3 n5 n6 g3 g5 g6 hz2
      go_wp2_with fail
      refine (wtext_any wx.heap.size va' N1 (j + k) 4096 _ hT6.a (by omega)).mono ?_
      rintro e w7 ⟨rfl, f7⟩
      have hT7 := hT6.quiet f7
      go_wp2_with fail
      refine (wtext_any wa.heap.size vb2 N1 (j + k) 4096 _ hT7.b (by omega)).mono ?_
      rintro e w8 ⟨rfl, f8⟩
      have hT8 := hT7.quiet f8
      go_wp2_with fail
      refine (wlen_fr wx.heap.size va' N1 (j + k) 4096 _ hT8.a (by omega)).mono ?_
      rintro e w9 ⟨rfl, n9⟩
      have hT9 := hT8.quiet n9
      go_wp2_with fail
      refine (wlen_fr wa.heap.size vb2 N1 (j + k) 4096 _ hT9.b (by omega)).mono ?_
      rintro e w10 ⟨rfl, n10⟩
      have hT10 := hT9.quiet n10
      clear hT6 hT7 hT8 hT9
      have he0 : wbytesE (j + k) 4096 s = 0 := by unfold wbytesE; rw [if_pos (by omega)]
      have HE0 := Lib.hid he0
      clear he0
      go_wp2_with fail
      refine (wbytes_any wx.heap.size va' N1 (j + k) 4096 s _ hT10.a (by omega) (by omega) (by decide)).mono ?_
      rintro e w11 ⟨rfl, va3, k11, n11, g11⟩
      rw [HE0.out] at k11 ⊢
      rw [if_pos rfl] at k11
      have hT11 := hT10.stepA k11 n11 g11
      go_wp2_with fail
      refine (walign_any wa.heap.size vb2 N1 (j + k) 4096 _ hT11.b (by omega) (by decide)).mono ?_
      rintro e w12 ⟨rfl, vb3, k12, n12, g12⟩
      have hT12 := hT11.stepB k12 n12 g12
      have hpd : pad (j + k) < 8 := by unfold pad; omega
      have hP : j + k + pad (j + k) ≤ 90 := by omega
      generalize j + k + pad (j + k) = P at *
      have HT12 := Lib.hid hT12
      clear hT10 hT11 hT12 k11 n11 g11 k12 n12 g12
      go_wp2_with fail
      go_loopw [20] (fun i wr => ∃ (q : Nat) (vb : Value), q ≤ s.size ∧ i = .int .i64 q ∧ Two wx wr wx.heap.size va3 (N1 + num s * 2 ^ P) (P + 8 * s.size) 4096 wa.heap.size vb (N1 + numL (s.data.toList.take q) * 2 ^ P) (P + 8 * q) 4096) (fun i _ => s.size - (intOf i).toNat)
      case atStart => exact ⟨0, vb3, Nat.zero_le _, rfl, by simpa [numL] using HT12.out⟩
      case round =>
        obtain ⟨q, vb4, hq, rfl, hT⟩ := hrel
        by_cases hqs : q < s.size
        · have hsn := numL_snoc s.data.toList q (by simpa using hqs)
          have hbq : (s[q]).toNat < 2 ^ 8 := (s[q]).toNat_lt
          have hwr : IntKind.u64.wrap ((s[q]).toNat : Int) = ((s[q]).toNat : Int) := by rw [IntKind.wrap_u64]; omega
          have hr8 : roomB (P + 8 * q) 8 4096 = true := by unfold roomB; apply decide_eq_true; omega
          have HSN := Lib.hid hsn
          have HR8 := Lib.hid hr8
          clear hsn hr8
          go_wp2_with fail
          refine (wbits_ok wa.heap.size vb4 _ (P + 8 * q) 4096 (s[q]).toNat 8 _ hT.b (by omega) (by decide) (by decide) hbq HR8.out).mono ?_
          rintro e w13 ⟨rfl, vb5, k13, n13, g13⟩
          have hT13 := hT.stepB k13 n13 g13
          go_wp2_with fail
          go_roundw
          case rel =>
            refine ⟨q + 1, vb5, by omega, by go_num, ?_⟩
            have e1 : N1 + numL (s.data.toList.take (q + 1)) * 2 ^ P = N1 + numL (s.data.toList.take q) * 2 ^ P + (s[q]).toNat * 2 ^ (P + 8 * q) := by
              rw [HSN.out, Nat.add_mul, Nat.pow_add, Nat.add_assoc]
              congr 2
              rw [show (s.data.toList[q]'(by simpa using hqs)) = s[q] from rfl, Nat.mul_assoc, Nat.mul_comm (2 ^ (8 * q))]
            rw [e1, show P + 8 * (q + 1) = P + 8 * q + 8 by omega]
            exact hT13
          case measure => simp [intOf]; omega
        · have hqe : q = s.size := by omega
          subst hqe
          have hfull : s.data.toList.take s.size = s.data.toList := List.take_of_length_le (by simp)
          rw [hfull] at hT
          replace hT : Two wx wr wx.heap.size va3 (N1 + num s * 2 ^ P) (P + 8 * s.size) 4096 wa.heap.size vb4 (N1 + num s * 2 ^ P) (P + 8 * s.size) 4096 := hT
          go_wp2_with fail
          refine (wtext_any wx.heap.size va3 _ _ 4096 _ hT.a (by omega)).mono ?_
          rintro e w14 ⟨rfl, f14⟩
          have hT14 := hT.quiet f14
          go_wp2_with fail
          refine (wtext_any wa.heap.size vb4 _ _ 4096 _ hT14.b (by omega)).mono ?_
          rintro e w15 ⟨rfl, f15⟩
          have hT15 := hT14.quiet f15
          go_wp2_with fail
          refine (alive02 _).mono ?_
          rintro e w16 ⟨rfl, hb⟩
          go_wp2_with fail
          go_ret
          exact ⟨rfl, (Fr.of_below (l := []) hb).out hT15.below (by simp)⟩
end Go.Proofs.Ytlognooioemenaa
