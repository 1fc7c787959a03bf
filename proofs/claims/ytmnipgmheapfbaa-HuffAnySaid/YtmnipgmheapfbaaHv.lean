/- The statement HuffAlike: the walk of its Go function. -/
import Derived.Test.YtmnipgmheapfbaaHt
import Derived.Test.YtmnipgmheapfbaaHu
namespace Go.Proofs.Ytmnipgmheapfbaa
open Go.RowKit
set_option linter.unusedVariables false
set_option linter.unusedSimpArgs false

theorem nat_u8 {x : Int} (h : (Lit.int .u8 x).wf = true) : ∃ n : Nat, x = (n : Int) ∧ n < 256 := by
  obtain ⟨h0, h1⟩ := bounds_u8 h
  exact ⟨x.toNat, by omega, by omega⟩
theorem nat_u64 {x : Int} (h : (Lit.int .u64 x).wf = true) : ∃ n : Nat, x = (n : Int) ∧ n < 18446744073709551616 := by
  simp [Lit.wf, IntKind.min, IntKind.max, IntKind.signed, IntKind.bits] at h
  exact ⟨x.toNat, by omega, by omega⟩
theorem len_big {l : List Nat} (h : 320 < l.length) : kindN l = 5 := by
  unfold kindN badL
  rw [decide_eq_true h]
  rfl
theorem kind_cases (l : List Nat) : kindN l ≤ 5 := by
  unfold kindN
  repeat' split
  all_goals omega

set_option maxRecDepth 2000000 in
set_option maxHeartbeats 6400000 in
theorem alike_big (w : World) (a0 : Option Addr) (c0 : Nat) (x0 : List Nat) (l0 : x0.length ≤ 9223372036854775807) (hb : 330 < x0.length) (a1 a2 a3 : Int) :
    Calls Try.prog 4 #[.slice a0 x0.length c0, .int .u8 a1, .int .u8 a2, .int .u64 a3] w fun e w' => e = .returned (.bool true) ∧ Below w.heap.size w w' := by
  have i0 : (330 : Int) < (x0.length : Int) := by omega
  have i1 : (x0.length : Int) ≤ 9223372036854775807 := by omega
  clear hb l0
  go_enter Try.func4, Try.ntmps4
  go_wp2_with fail
  refine (alive_any _).mono ?_
  rintro e w1 ⟨rfl, f1⟩
  have HF1 := Lib.hid f1
  clear f1
  go_wp2_with fail
  go_ret
  exact ⟨rfl, HF1.out.below⟩

set_option maxRecDepth 2000000 in
set_option maxHeartbeats 6400000 in
theorem alike_none (w : World) (a0 : Option Addr) (c0 : Nat) (x0 : List Nat) (hb : x0.length ≤ 330) (n1 n2 : Nat) (h1 : n1 < 256) (h2 : n2 < 256) (a3 : Int) (er : Nat) (her : 0 < er) (hr : er ≤ 7)
    (hnew : ∀ (f : Int) W, 1 ≤ f → f ≤ 12 → Fr [] w W → Calls Try.prog 9 #[.slice a0 x0.length c0, .int .i64 f] W fun e w' => e = .returned (.tuple #[.pointer none, .int .i64 (er : Int)]) ∧ Fr [] W w') :
    Calls Try.prog 4 #[.slice a0 x0.length c0, .int .u8 (n1 : Int), .int .u8 (n2 : Int), .int .u64 a3] w fun e w' => e = .returned (.bool true) ∧ Below w.heap.size w w' := by
  have HN := Lib.hid hnew
  have i0 : (x0.length : Int) ≤ 330 := by omega
  have i1 : (n1 : Int) ≤ 255 := by omega
  have i2 : (n2 : Int) ≤ 255 := by omega
  have i3 : ((er : Int) == 0) = false := by simp; omega
  have i4 : ((er : Int) != 0) = true := by simp; omega
  clear hnew hb h1 h2 her hr
  go_enter Try.func4, Try.ntmps4
  go_wp2_with fail
  refine (HN.out _ _ (by omega) (by omega) (Fr.refl _ _)).mono ?_
  rintro e w1 ⟨rfl, f1⟩
  have HF1 := Lib.hid f1
  clear f1
  go_wp2_with fail
  refine (HN.out _ _ (by omega) (by omega) HF1.out).mono ?_
  rintro e w2 ⟨rfl, f2⟩
  have HF2 := Lib.hid (HF1.out.trans f2)
  clear f2 HF1
  go_wp2_with fail
  refine (alive_any _).mono ?_
  rintro e w3 ⟨rfl, f3⟩
  have HF3 := Lib.hid (HF2.out.trans f3)
  clear f3 HF2
  go_wp2_with fail
  go_ret
  exact ⟨rfl, HF3.out.below⟩
/-- What was told so far: of k - 1 bits. -/
def stN (l : List Nat) (x k : Nat) : Nat × Nat × Int := if k = 0 then (0, 0, 6) else lookN l x (min (k - 1) 15)
theorem st_step (l : List Nat) (hT : Tab l) (x k : Nat) : (stN l x k).2.2 = 6 ∨ lookN l x (min k 15) = stN l x k := by
  unfold stN
  by_cases h0 : k = 0
  · left; rw [if_pos h0]
  · rw [if_neg h0]
    by_cases hk : k ≤ 15
    · rw [show min (k - 1) 15 = k - 1 by omega, show min k 15 = k - 1 + 1 by omega]
      by_cases he : (lookN l x (k - 1)).2.2 = 6
      · exact .inl he
      · exact .inr (look_stays l hT x (k - 1) he)
    · right; rw [show min (k - 1) 15 = min k 15 by omega]
theorem st_succ (l : List Nat) (x k : Nat) : stN l x (k + 1) = lookN l x (min k 15) := by
  unfold stN; rw [if_neg (by omega)]; rfl

set_option maxRecDepth 2000000 in
set_option maxHeartbeats 6400000 in
theorem alike_any (w : World) (a0 : Option Addr) (c0 : Nat) (x0 : List Nat) (hb : x0.length ≤ 320) (hs : SlOf U8 1 w a0 x0) (h8 : ∀ y ∈ x0, y < 256) (n1 n2 x : Nat) (h1 : n1 < 256) (h2 : n2 < 256) (hx : x < 18446744073709551616) (hk5 : kindN x0 ≠ 5) (hk4 : kindN x0 ≠ 4) (hk3 : kindN x0 ≠ 3) :
    Calls Try.prog 4 #[.slice a0 x0.length c0, .int .u8 (n1 : Int), .int .u8 (n2 : Int), .int .u64 (x : Int)] w fun e w' => e = .returned (.bool true) ∧ Below w.heap.size w w' := by
  have hT := tab_of hk5 hk4 hk3
  obtain ⟨F1, hF1⟩ : ∃ F, n1 % 12 + 1 = F := ⟨_, rfl⟩
  obtain ⟨F2, hF2⟩ : ∃ F, n2 % 12 + 1 = F := ⟨_, rfl⟩
  have e1 : (n1 : Int) % 12 + 1 = (F1 : Int) := by omega
  have e2 : (n2 : Int) % 12 + 1 = (F2 : Int) := by omega
  have HN := Lib.hid (fun (F : Nat) W (hf0 : 1 ≤ F) (hf1 : F ≤ 15) (hW : Fr [] w W) => hnew_any a0 c0 x0 F W (hs.below hW.below) (by omega) h8 hf0 hf1 hk5 hk4 hk3)
  have HH := Lib.hid (And.intro hT (And.intro hs (And.intro hx hb)))
  have b1 : 1 ≤ F1 ∧ F1 ≤ 12 := by omega
  have b2 : 1 ≤ F2 ∧ F2 ≤ 12 := by omega
  have B1 := Lib.hid b1
  have B2 := Lib.hid b2
  have i0 : (x0.length : Int) ≤ 320 := by omega
  have i1 : (n1 : Int) ≤ 255 := by omega
  have i2 : (n2 : Int) ≤ 255 := by omega
  have i3 : (x : Int) ≤ 18446744073709551615 := by omega
  have i4 : (F1 : Int) ≤ 12 := by omega
  clear hT hs h8 h1 h2 hx hk5 hk4 hk3 hb b1 b2 hF1 hF2
  go_enter Try.func4, Try.ntmps4
  go_wp2_with fail
  refine (HN.out F1 _ (by have := B1.out; omega) (by have := B1.out; omega) (Fr.refl _ _)).mono ?_
  rintro e w1 ⟨ta, rfl, _, hTa, f1⟩
  have HTa := Lib.hid hTa
  have HF1 := Lib.hid f1
  clear f1 hTa
  go_wp2_with fail
  refine (HN.out F2 _ (by have := B2.out; omega) (by have := B2.out; omega) HF1.out).mono ?_
  rintro e w2 ⟨tb, rfl, _, hTb, f2⟩
  have HTb := Lib.hid hTb
  have HTa2 := Lib.hid (HTa.out.to f2 (by simp))
  have HF2 := Lib.hid (HF1.out.trans f2)
  clear f2 hTb HTa HF1 HN
  go_wp2_with fail
  go_loopw [13, 14, 15, 16] (fun wa sy sz ha wr => ∃ k : Nat, k ≤ 18 ∧ ha = .int .i64 (k : Int) ∧ wa = .int .i64 (stN x0 x k).2.2 ∧ sy = .int .i64 ((stN x0 x k).1 : Int) ∧ sz = .int .i64 ((stN x0 x k).2.1 : Int) ∧ Fr [] w2 wr) (fun _ _ _ ha _ => 18 - (intOf ha).toNat)
  case atStart => exact ⟨0, by omega, rfl, rfl, rfl, rfl, Fr.refl _ _⟩
  case round =>
    obtain ⟨k, hk, rfl, rfl, rfl, rfl, hfr⟩ := hrel
    by_cases hk18 : k < 18
    · have hki : (k : Int) ≤ 17 := by omega
      have hst := st_step x0 HH.out.1 x k
      have hsu := st_succ x0 x k
      have herr := lookN_err x0 x (min k 15)
      have HLa := Lib.hid (fun W (hW : Fr [] wr W) => look_any ta x0 F1 _ x (k : Int) W ((HTa2.out.to hfr (by simp)).to hW (by simp)) HH.out.1.1 HH.out.2.2.2 (by have := B1.out; omega) HH.out.2.2.1 (by omega) (by omega))
      have HLb := Lib.hid (fun W (hW : Fr [] wr W) => look_any tb x0 F2 _ (x % 2 ^ k) (k : Int) W ((HTb.out.to hfr (by simp)).to hW (by simp)) HH.out.1.1 HH.out.2.2.2 (by have := B2.out; omega) (Nat.lt_of_le_of_lt (Nat.mod_le _ _) HH.out.2.2.1) (by omega) (by omega))
      rw [show min ((k : Nat) : Int).toNat 15 = min k 15 by omega] at HLa HLb
      rw [look_mod x0 x k (min k 15) (by omega)] at HLb
      have hmask := fun W => mask_any (k : Int) W
      rw [maskN_nat k (by omega)] at hmask
      obtain ⟨mk, hmk⟩ : ∃ mk, 2 ^ k - 1 = mk := ⟨_, rfl⟩
      obtain ⟨y, hy⟩ : ∃ y, x % 2 ^ k = y := ⟨_, rfl⟩
      have hand : bits BinOp.and IntKind.u64 (x : Int) (mk : Int) = (y : Int) := by rw [← hmk, ← hy]; exact and_mask x k HH.out.2.2.1 (by omega)
      rw [hmk] at hmask
      rw [hy] at HLb
      have HM := Lib.hid hmask
      have hyi : (y : Int) ≤ 18446744073709551615 := by have := Nat.mod_le x (2 ^ k); have := HH.out.2.2.1; omega
      rw [← hsu] at hst herr HLa HLb
      have hn0 : (stN x0 x (k + 1)).2.2 = 0 → (stN x0 x (k + 1)).2.1 ≤ k := fun h => by
        rcases herr with ⟨h1, h2⟩ | ⟨h1, _⟩ | ⟨h1, _⟩
        · omega
        · rw [h] at h1; omega
        · rw [h] at h1; omega
      have HFR := Lib.hid hfr
      have hcases : (stN x0 x k).2.2 = 6 ∨ stN x0 x (k + 1) = stN x0 x k := hst
      clear hst hsu hmask hmk hy hfr
      have HG : ∀ r0 r1 r2 s0 s1 s2, stN x0 x (k + 1) = (r0, r1, r2) → stN x0 x k = (s0, s1, s2) → True := fun _ _ _ _ _ _ _ _ => trivial
      clear HG
      obtain ⟨r0, r1, r2, hR⟩ : ∃ r0 r1 r2, stN x0 x (k + 1) = (r0, r1, r2) := ⟨_, _, _, rfl⟩
      obtain ⟨s0, s1, s2, hS⟩ : ∃ r0 r1 r2, stN x0 x k = (r0, r1, r2) := ⟨_, _, _, rfl⟩
      rw [hR] at hcases herr HLa HLb hn0
      rw [hS] at hcases ⊢
      simp only at hcases herr HLa HLb hn0 ⊢
      have hall : (s2 = 6 ∨ (s0 = r0 ∧ s1 = r1 ∧ s2 = r2)) := by
        rcases hcases with h | h
        · exact .inl h
        · cases h; exact .inr ⟨rfl, rfl, rfl⟩
      have HRS := Lib.hid (And.intro hR hS)
      clear hcases hR hS
      have hr2 : r2 = 0 ∨ r2 = 7 ∨ r2 = 6 := by rcases herr with h | h | h <;> omega
      clear herr
      rcases hall with rfl | ⟨rfl, rfl, rfl⟩
      · rcases hr2 with rfl | rfl | rfl
        all_goals
          have hn1 : (r1 : Int) ≤ (k : Int) ∨ True := .inr trivial
          clear hn1
          first
            | (have hle : (r1 : Int) ≤ (k : Int) := by have := hn0 rfl; omega)
            | skip
          clear hn0
          go_wp2_with fail
          refine (HLa.out _ (Fr.refl _ _)).mono ?_
          rintro e w3 ⟨rfl, f3⟩
          have HF3 := Lib.hid f3
          clear f3
          go_wp2_with fail
          refine (HM.out _).mono ?_
          rintro e w4 ⟨rfl, hw4⟩
          subst hw4
          go_wp2_with fail
          refine (HLb.out _ HF3.out).mono ?_
          rintro e w5 ⟨rfl, f5⟩
          have HF5 := Lib.hid (HF3.out.trans f5)
          clear f5
          go_wp2_with fail
          go_roundw
          case rel => exact ⟨k + 1, by omega, by go_num, by rw [HRS.out.1], by rw [HRS.out.1], by rw [HRS.out.1], HFR.out.trans HF5.out⟩
          case measure => simp [intOf]; omega
      · rcases hr2 with rfl | rfl | rfl
        all_goals
          first
            | (have hle : (s1 : Int) ≤ (k : Int) := by have := hn0 rfl; omega)
            | skip
          clear hn0
          go_wp2_with fail
          refine (HLa.out _ (Fr.refl _ _)).mono ?_
          rintro e w3 ⟨rfl, f3⟩
          have HF3 := Lib.hid f3
          clear f3
          go_wp2_with fail
          refine (HM.out _).mono ?_
          rintro e w4 ⟨rfl, hw4⟩
          subst hw4
          go_wp2_with fail
          refine (HLb.out _ HF3.out).mono ?_
          rintro e w5 ⟨rfl, f5⟩
          have HF5 := Lib.hid (HF3.out.trans f5)
          clear f5
          go_wp2_with fail
          go_roundw
          case rel => exact ⟨k + 1, by omega, by go_num, by rw [HRS.out.1], by rw [HRS.out.1], by rw [HRS.out.1], HFR.out.trans HF5.out⟩
          case measure => simp [intOf]; omega
    · have hke : k = 18 := by omega
      subst hke
      have hend : (stN x0 x 18).2.2 ≠ 6 := look_end x0 HH.out.1.1 x
      have hE : (((stN x0 x 18).2.2 : Int) != 6) = true := by simpa using hend
      generalize (stN x0 x 18).2.2 = s2 at *
      generalize (stN x0 x 18).1 = s0 at *
      generalize (stN x0 x 18).2.1 = s1 at *
      have HFR := Lib.hid hfr
      clear hend hfr
      go_wp2_with fail
      go_loopw [23, 24] (fun m i wq => ∃ j : Nat, j ≤ x0.length ∧ i = .int .i64 (j : Int) ∧ m = .int .i64 (mostN (x0.take j) : Int) ∧ wq = wr) (fun _ i _ => x0.length - (intOf i).toNat)
      case atStart => exact ⟨0, Nat.zero_le _, rfl, rfl, rfl⟩
      case round =>
        obtain ⟨j, hj, rfl, rfl, rfl⟩ := hrel
        have hm15 := mostN_le (x0.take j) 15 (fun y hy => HH.out.1.1.le y (List.mem_of_mem_take hy))
        by_cases hjl : j < x0.length
        · obtain ⟨y, hy⟩ : ∃ y, x0[j]? = some y := ⟨x0[j], List.getElem?_eq_getElem hjl⟩
          obtain ⟨b, o, rfl, hbl, hcell⟩ := (HH.out.2.1.below (HF2.out.trans HFR.out).below) (by intro h; rw [h] at hy; simp at hy)
          have d0 := hcell j y hy 0 (.int .u8 (y : Int)) rfl
          rw [Nat.mul_one, Nat.add_zero] at d0
          have hx15 := HH.out.1.1.le y (List.mem_of_getElem? hy)
          have hxi : (y : Int) ≤ 15 := by omega
          have hji : (j : Int) < (x0.length : Int) := by omega
          obtain ⟨m, hm⟩ : ∃ m, mostN (x0.take j) = m := ⟨_, rfl⟩
          obtain ⟨m', hm'⟩ : ∃ m', max m y = m' := ⟨_, rfl⟩
          rw [hm] at hm15 ⊢
          have hmx : max (m : Int) (y : Int) = (m' : Int) := by omega
          have hmi : (m : Int) ≤ 15 := by omega
          have HR := Lib.hid (And.intro hy (And.intro hm hm'))
          clear hcell hy hm hm' hm15 hx15 hbl
          go_wp2_with fail
          go_roundw
          case rel => exact ⟨j + 1, by omega, by go_num, by rw [mostN_take x0 j y HR.out.1, HR.out.2.1, HR.out.2.2], trivial⟩
          case measure => simp [intOf]; omega
        · have hje : j = x0.length := by omega
          subst hje
          rw [List.take_length] at hm15 ⊢
          obtain ⟨m, hm⟩ : ∃ m, mostN x0 = m := ⟨_, rfl⟩
          have hcl := cells_le x0 F1 (mostN x0) (mostN_ge x0)
          have hF := B1.out
          rw [hm] at hcl hm15 ⊢
          obtain ⟨pm, hpm⟩ : ∃ p, 2 ^ m = p := ⟨_, rfl⟩
          obtain ⟨pf, hpf⟩ : ∃ p, 2 ^ F1 = p := ⟨_, rfl⟩
          have q1 : (2 : Int) ^ m = (pm : Int) := by rw [← hpm]; simp
          have q2 : (2 : Int) ^ F1 = (pf : Int) := by rw [← hpf]; simp
          have r1 : 2 ^ m ≤ 2 ^ 15 := Nat.pow_le_pow_right (by decide) hm15
          have r2 : 2 ^ F1 ≤ 2 ^ 12 := Nat.pow_le_pow_right (by decide) (by omega)
          have t1 : (pm : Int) ≤ 32768 := by omega
          have t2 : (pf : Int) ≤ 4096 := by omega
          have t3 : (m : Int) ≤ 15 := by omega
          have hce := cells_any ta x0 F1 _ wr (HTa2.out.to HFR.out (by simp)) HH.out.1.1 (by omega)
          obtain ⟨z, hz⟩ : ∃ z, cellsN x0 F1 = z := ⟨_, rfl⟩
          rw [hz] at hce hcl
          rw [hpm, hpf] at hcl
          have t4 : (z : Int) ≤ (pm : Int) + (pf : Int) := by omega
          have HCE := Lib.hid hce
          clear hm hcl hpm hpf r1 r2 hce hz hm15 hF
          go_wp2_with fail
          refine HCE.out.mono ?_
          rintro e w6 ⟨rfl, f6⟩
          have HF6 := Lib.hid f6
          clear f6
          go_wp2_with fail
          refine (alive_any _).mono ?_
          rintro e w7 ⟨rfl, f7⟩
          have HF7 := Lib.hid f7
          clear f7
          go_wp2_with fail
          go_ret
          exact ⟨rfl, (((HF2.out.trans HFR.out).trans HF6.out).trans HF7.out).below⟩

theorem huffAlike_walk (w : World) (a0 : Option Addr) (c0 : Nat) (x0 : List Nat) (l0 : x0.length ≤ maxLen) (s0 : SlOf (Un .u8) 1 w a0 x0) (o0 : ∀ x, x ∈ x0 → x < 256) (a1 : Int) (w1 : (Lit.int .u8 a1).wf = true) (a2 : Int) (w2 : (Lit.int .u8 a2).wf = true) (a3 : Int) (w3 : (Lit.int .u64 a3).wf = true) :
    Calls Try.prog 4 #[.slice a0 x0.length c0, .int .u8 a1, .int .u8 a2, .int .u64 a3] w fun e w' => e = .returned (.bool true) ∧ Below w.heap.size w w' := by
  rw [un_u8] at s0
  unfold maxLen at l0
  obtain ⟨n1, rfl, h1⟩ := nat_u8 w1
  obtain ⟨n2, rfl, h2⟩ := nat_u8 w2
  obtain ⟨n3, rfl, h3⟩ := nat_u64 w3
  by_cases hb : 330 < x0.length
  · exact alike_big w a0 c0 x0 l0 hb _ _ _
  by_cases hk5 : kindN x0 = 5
  · exact alike_none w a0 c0 x0 (by omega) n1 n2 h1 h2 _ 2 (by decide) (by decide) (fun f W hf0 hf1 hW => hnew_arg a0 c0 x0 f W (s0.below hW.below) l0 o0 (by omega) (by omega) (.inr (.inr hk5)))
  by_cases hk43 : kindN x0 = 4 ∨ kindN x0 = 3
  · exact alike_none w a0 c0 x0 (by omega) n1 n2 h1 h2 _ 7 (by decide) (by decide) (fun f W hf0 hf1 hW => hnew_form a0 c0 x0 f W (s0.below hW.below) l0 o0 hf0 (by omega) hk43)
  · have hlen := (kind_ok (kind_le hk5)).1
    exact alike_any w a0 c0 x0 hlen s0 o0 n1 n2 n3 h1 h2 h3 hk5 (by omega) (by omega)
end Go.Proofs.Ytmnipgmheapfbaa

