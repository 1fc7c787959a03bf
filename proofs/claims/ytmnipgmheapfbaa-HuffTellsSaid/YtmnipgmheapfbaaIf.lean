/- The document's bits of codes, and codes as they are written: platenref05's Bit and Same, platenref07's bit, Writes and New. -/
import Derived.Test.YtmnipgmheapfbaaIe
import Derived.Test.YtmnipgmheapfbaaHj
import Derived.Laws.StructEq
namespace Go.Proofs.Ytmnipgmheapfbaa
open Go.RowKit
set_option linter.unusedVariables false
set_option linter.unusedSimpArgs false

set_option maxRecDepth 2000000 in
set_option maxHeartbeats 1600000 in
theorem bit05_any (x z k : Nat) (w : World) (hx : x ≤ 40000) (hz : z ≤ 15) (hk : k < z) :
    Calls Try.prog 36 #[.agg #[.int .u32 (x : Int), .int .u8 (z : Int)], .int .i64 (k : Int)] w fun e w' => e = .returned (.int .u32 ((x / 2 ^ (z - 1 - k) % 2 : Nat) : Int)) ∧ Fr [] w w' := by
  obtain ⟨d, hd⟩ : ∃ d, z - 1 - k = d := ⟨_, rfl⟩
  rw [hd]
  have e1 : (z : Int) - 1 - (k : Int) = (d : Int) := by omega
  have hdi : (d : Int) ≤ 15 := by omega
  have hxi : (x : Int) ≤ 40000 := by omega
  have hzi : (z : Int) ≤ 15 := by omega
  have hki : (k : Int) + 1 ≤ (z : Int) := by omega
  obtain ⟨q, hq⟩ : ∃ q, x / 2 ^ d = q := ⟨_, rfl⟩
  have e2 : (x : Int) / 2 ^ d = (q : Int) := by rw [← hq]; simp
  have hqi : (q : Int) ≤ 40000 := by have := Nat.div_le_self x (2 ^ d); omega
  rw [hq]
  clear hx hz hk hd hq
  go_enter Try.func36, Try.ntmps36
  go_wp2_with fail
  go_ret
  exact ⟨by simp, Fr.alloc _ _ _⟩
set_option maxRecDepth 2000000 in
set_option maxHeartbeats 1600000 in
theorem bit07_any (x k : Nat) (w : World) (hx : x < 18446744073709551616) (hk : k ≤ 40) :
    Calls Try.prog 37 #[.int .u64 (x : Int), .int .i64 (k : Int)] w fun e w' => e = .returned (.int .u32 ((x / 2 ^ k % 2 : Nat) : Int)) ∧ Fr [] w w' := by
  have hki : (k : Int) ≤ 40 := by omega
  have hxi : (x : Int) ≤ 18446744073709551615 := by omega
  obtain ⟨q, hq⟩ : ∃ q, x / 2 ^ k = q := ⟨_, rfl⟩
  have e2 : (x : Int) / 2 ^ k = (q : Int) := by rw [← hq]; simp
  have hqi : (q : Int) ≤ 18446744073709551615 := by have := Nat.div_le_self x (2 ^ k); omega
  rw [hq]
  clear hx hk hq
  go_enter Try.func37, Try.ntmps37
  go_wp2_with fail
  go_ret
  exact ⟨by simp, Fr.refl _ _⟩

theorem cd_eq (a c : Nat) (W : World) : (binOp .neq 60 (.agg #[.int .u32 (a : Int), .int .u8 (c : Int)]) (.agg #[.int .u32 (a : Int), .int .u8 (c : Int)])).run Try.prog W = .ok (.bool false) W := by
  rw [run_neq_struct]
  have h : (Op.equalIn 10000 60 (.agg #[.int .u32 (a : Int), .int .u8 (c : Int)]) (.agg #[.int .u32 (a : Int), .int .u8 (c : Int)])).run Try.prog W = .ok true W := by
    have u3 := Try.underlying58
    have a3 := Try.isAgg58
    have z3 := Try.sizeOf58
    have u9 := Try.underlying5
    have a9 := Try.isAgg5
    have z9 := Try.sizeOf5
    have hS : Try.prog.underlying 60 = some (.struct (Try.prog.fieldsOf 60)) := by kernel_rfl
    have hp : Try.prog.stoodInHeld 60 = false := by kernel_rfl
    rw [show (10000 : Nat) = 9999 + 1 from rfl, run_equalIn_agg W 9999 60 _ _ hS hp]
    simp only [Program.fieldsOf, Try.underlying60]
    go_simp
  rw [h]
  rfl
theorem same_nil (w : World) : Calls Try.prog 13 #[.slice none 0 0, .slice none 0 0] w fun e w' => e = .returned (.bool true) ∧ Fr [] w w' := by
  go_enter Try.func13, Try.ntmps13
  go_wp2_with fail
  go_loop [5] (fun i => i = .int .i64 0) (fun _ => 0)
  case atStart => rfl
  case round =>
    subst hrel
    go_wp2_with fail
    go_ret
    exact ⟨rfl, Fr.refl _ _⟩
set_option maxRecDepth 2000000 in
set_option maxHeartbeats 1600000 in
theorem same_any (g h n : Nat) (F : Nat → Nat × Nat) (w : World) (hg : Prow Cd 60 w g n F) (hh : Prow Cd 60 w h n F) (hn : n ≤ 1000) :
    Calls Try.prog 13 #[.slice (some ⟨g, 0, none⟩) n n, .slice (some ⟨h, 0, none⟩) n n] w fun e w' => e = .returned (.bool true) ∧ Fr [] w w' := by
  have HG := Lib.hid hg
  have HH := Lib.hid hh
  have hni : (n : Int) ≤ 1000 := by omega
  have hc := fun a c W => cd_eq a c W
  have HC := Lib.hid hc
  clear hg hh hn hc
  go_enter Try.func13, Try.ntmps13
  go_wp2_with fail
  go_loopw [5] (fun i wr => ∃ j : Nat, j ≤ n ∧ i = .int .i64 (j : Int) ∧ Fr [] w wr) (fun i _ => n - (intOf i).toNat)
  case atStart => exact ⟨0, Nat.zero_le _, rfl, Fr.refl _ _⟩
  case round =>
    obtain ⟨j, hj, rfl, hf⟩ := hrel
    by_cases hjn : j < n
    · have e0 := (HG.out.to hf (by simp)).cell cd_len j 0 hjn (by omega)
      have e1 := (HG.out.to hf (by simp)).cell cd_len j 1 hjn (by omega)
      have f0 := (HH.out.to hf (by simp)).cell cd_len j 0 hjn (by omega)
      have f1 := (HH.out.to hf (by simp)).cell cd_len j 1 hjn (by omega)
      simp only [Cd, List.getElem?_cons_zero, List.getElem?_cons_succ, Nat.add_zero] at e0 e1 f0 f1
      obtain ⟨x, hx⟩ : ∃ x, (F j).1 = x := ⟨_, rfl⟩
      obtain ⟨y, hy⟩ : ∃ y, (F j).2 = y := ⟨_, rfl⟩
      rw [hx] at e0 f0
      rw [hy] at e1 f1
      have hji : (j : Int) < (n : Int) := by omega
      have hcq := fun W => HC.out x y W
      have HF := Lib.hid hf
      clear hx hy hf
      go_wp2_with fail
      go_quiet (fail)
      go_wp2_with fail
      go_roundw
      case rel => exact ⟨j + 1, by omega, by go_num, HF.out.trans (Fr.drewN _ _ _)⟩
      case measure => simp [intOf]; omega
    · have hje : j = n := by omega
      subst hje
      have HF := Lib.hid hf
      clear hf
      go_wp2_with fail
      go_ret
      exact ⟨rfl, HF.out⟩

theorem turnN_succ (x k m : Nat) (h : k < m) : turnN x m / 2 ^ k = 2 * (turnN x m / 2 ^ (k + 1)) + x / 2 ^ (m - 1 - k) % 2 := by
  have h5 : turnN x m / 2 ^ (k + 1) = turnN x m / 2 ^ k / 2 := by rw [Nat.div_div_eq_div_mul, ← Nat.pow_succ]
  rw [h5]
  have h2 : turnN x m / 2 ^ k % 2 = x / 2 ^ (m - 1 - k) % 2 := by
    have h3 := turnN_bit x m k
    rw [decide_eq_true h, Bool.true_and] at h3
    rw [Nat.testBit_eq_decide_div_mod_eq, Nat.testBit_eq_decide_div_mod_eq] at h3
    have h4 : (turnN x m / 2 ^ k % 2 = 1) ↔ (x / 2 ^ (m - 1 - k) % 2 = 1) := by
      constructor
      · intro h; rw [decide_eq_true h] at h3; exact of_decide_eq_true h3.symm
      · intro h; rw [decide_eq_true h] at h3; exact of_decide_eq_true h3
    omega
  omega

set_option maxRecDepth 2000000 in
set_option maxHeartbeats 1600000 in
theorem rwrites_bad (a : Option Addr) (c : Nat) (l : List Nat) (w : World) (hs : SlOf U8 1 w a l) (hl : l.length ≤ 9223372036854775807) (h8 : ∀ x ∈ l, x < 256) (er : Nat) (hk : kindN l = 5 ∧ er = 2 ∨ kindN l = 4 ∧ er = 7) :
    Calls Try.prog 12 #[.slice a l.length c] w fun e w' => e = .returned (.tuple #[.slice none 0 0, .int .i64 (er : Int)]) ∧ Fr [] w w' := by
  have HT := Lib.hid (rcodes_bad a c l w hs hl h8 er hk)
  have he : ((er : Int) == 0) = false := by simp; omega
  have he2 : ¬ ((er : Int) = 0) := by omega
  clear hs hl h8 hk
  go_enter Try.func12, Try.ntmps12
  go_wp2_with fail
  refine HT.out.mono ?_
  rintro e w1 ⟨rfl, f1⟩
  clear HT
  have HF := Lib.hid f1
  clear f1
  go_wp2_with fail
  go_ret2
  exact ⟨rfl, HF.out⟩

set_option maxRecDepth 2000000 in
set_option maxHeartbeats 3200000 in
theorem rwrites_any (a : Option Addr) (c : Nat) (l : List Nat) (w : World) (hs : SlOf U8 1 w a l) (hl : l.length ≤ 9223372036854775807) (h8 : ∀ x ∈ l, x < 256) (hk5 : kindN l ≠ 5) (hk4 : kindN l ≠ 4) :
    Calls Try.prog 12 #[.slice a l.length c] w fun e w' => ∃ g, e = .returned (.tuple #[.slice (some ⟨g, 0, none⟩) l.length l.length, .int .i64 0]) ∧ w.heap.size ≤ g ∧ Prow Cd 60 w' g l.length (codeW l) ∧ Fr [] w w' := by
  have hbad := kind_le hk5
  have hw := kind_wt hk5 hk4
  obtain ⟨hlen, hle⟩ := kind_ok hbad
  have HFI := Lib.hid (Fine.mk hle hw)
  have HT := Lib.hid (rcodes_any a c l w hs hl h8 hk5 hk4)
  have i1 : (l.length : Int) ≤ 320 := by omega
  clear hs hl h8 hbad hw hlen hle hk5 hk4
  go_enter Try.func12, Try.ntmps12
  go_wp2_with fail
  refine HT.out.mono ?_
  rintro e w1 ⟨g1, rfl, hg1, hP1, f1⟩
  clear HT
  have hmk := run_make_codes l.length (by omega) w1
  have HF := Lib.hid (And.intro hP1 f1)
  have hz1 := f1.size
  have hgl := lt_of hP1
  have HN := Lib.hid (And.intro (show Prow Cd 60 (w1.alloc (.cells ((List.range l.length).flatMap fun j => Cd ((fun _ => (0, 0)) j)).toArray 60)) w1.heap.size l.length (fun _ => (0, 0)) from new_of w1 _) (And.intro (hP1.to (Fr.alloc [] w1 (.cells ((List.range l.length).flatMap fun j => Cd ((fun _ => (0, 0)) j)).toArray 60)) (by simp)) (f1.trans (Fr.alloc [] w1 (.cells ((List.range l.length).flatMap fun j => Cd ((fun _ => (0, 0)) j)).toArray 60))).below))
  clear hP1 f1
  go_wp2_with fail
  obtain ⟨g, hgg⟩ : ∃ g, w1.heap.size = g := ⟨_, rfl⟩
  rw [hgg] at HN hz1 hgl ⊢
  clear hgg hmk
  go_loopw [7] (fun i wr => ∃ j : Nat, j ≤ l.length ∧ i = .int .i64 (j : Int) ∧ Prow Cd 60 wr g1 l.length (codeP l) ∧ Prow Cd 60 wr g l.length (fun s => if s < j then codeW l s else (0, 0)) ∧ Below w.heap.size w wr) (fun i _ => l.length - (intOf i).toNat)
  case atStart => exact ⟨0, Nat.zero_le _, rfl, HN.out.2.1, HN.out.1.congr (fun s hs => rfl), HN.out.2.2⟩
  case round =>
    obtain ⟨j, hj, rfl, hP, hO, hB⟩ := hrel
    by_cases hjl : j < l.length
    · have hji : (j : Int) < (l.length : Int) := by omega
      obtain ⟨x, hx⟩ : ∃ x, (codeP l j).1 = x := ⟨_, rfl⟩
      obtain ⟨y, hy⟩ : ∃ y, (codeP l j).2 = y := ⟨_, rfl⟩
      have k1 := hP.cell cd_len j 1 hjl (by omega)
      simp only [Cd, List.getElem?_cons_zero, List.getElem?_cons_succ, Nat.add_zero] at k1
      rw [hy] at k1
      have hxle : x ≤ 32767 := by have := codeP_le HFI.out j; omega
      have hyle : y ≤ 15 := by have := getD_le HFI.out.le j; rw [← hy, codeP_size]; exact this
      have hyi : (y : Int) ≤ 15 := by omega
      have HR := Lib.hid (And.intro hP (And.intro hO (And.intro hB (And.intro hx hy))))
      have hgw := lt_of hO
      clear hP hO hB hx hy
      go_wp2_with fail
      go_loopw [8, 9] (fun n k wq => ∃ d : Nat, d ≤ y ∧ k = .int .i64 ((d : Int) - 1) ∧ n = .int .u32 ((turnN x y / 2 ^ d : Nat) : Int) ∧ Fr [] wr wq) (fun _ k _ => (intOf k + 1).toNat)
      case atStart => exact ⟨y, Nat.le_refl _, rfl, by rw [Nat.div_eq_of_lt (turnN_lt x y)]; rfl, Fr.refl _ _⟩
      case round =>
        obtain ⟨d, hd, rfl, rfl, hfq⟩ := hrel
        obtain ⟨wq, hwq⟩ : ∃ wq, wq = wr := ⟨wr, rfl⟩
        subst hwq
        have htl := turnN_lt x y
        have hp15 : 2 ^ y ≤ 2 ^ 15 := Nat.pow_le_pow_right (by decide) hyle
        have hdl := Nat.div_le_self (turnN x y) (2 ^ d)
        by_cases hd0 : d = 0
        · subst hd0
          rw [Nat.pow_zero, Nat.div_one]
          have k1 := (HR.out.1.to hfq (by simp)).cell cd_len j 1 hjl (by omega)
          simp only [Cd, List.getElem?_cons_zero, List.getElem?_cons_succ, Nat.add_zero] at k1
          rw [HR.out.2.2.2.2] at k1
          have hOq := HR.out.2.1.to hfq (by simp)
          have e0 := hOq.cell cd_len j 0 hjl (by omega)
          have e1 := hOq.cell cd_len j 1 hjl (by omega)
          have g0 := free_of hOq (j * 2)
          have g1' := free_of hOq (j * 2 + 1)
          rw [if_neg (by omega)] at e0 e1
          simp only [Cd, List.getElem?_cons_zero, List.getElem?_cons_succ, Nat.add_zero] at e0 e1
          have HQ := Lib.hid (And.intro hOq hfq)
          obtain ⟨t, ht⟩ : ∃ t, turnN x y = t := ⟨_, rfl⟩
          rw [ht] at htl ⊢
          have hti : (t : Int) ≤ 32768 := by omega
          have HT := Lib.hid ht
          clear hOq hfq ht htl hp15 hdl hd
          go_wp2_with fail
          go_roundw
          case rel =>
            have hne : g1 ≠ g := by omega
            refine ⟨j + 1, by omega, by go_num, ?_, ?_, ?_⟩
            · exact (HR.out.1.to HQ.out.2 (by simp)).to ((Fr.setCell _ g _ _).trans (Fr.setCell _ g _ _)) (by simp; exact hne)
            · exact HQ.out.1.set_ (G := fun s => if s < j + 1 then codeW l s else (0, 0)) cd_len j hjl _ _ (fun s hs hsj => by
                by_cases h : s < j
                · rw [if_pos h, if_pos (by omega)]
                · rw [if_neg h, if_neg (by omega)]) (by rw [if_pos (by omega)]; unfold codeW Cd; rw [HR.out.2.2.2.1, HR.out.2.2.2.2, HT.out])
            · exact ((Fr.setCell _ g _ _).trans (Fr.setCell _ g _ _)).out (HQ.out.2.out HR.out.2.2.1 (by simp)) (by simp; omega)
          case measure => simp [intOf]; omega
        · obtain ⟨k, rfl⟩ : ∃ k, d = k + 1 := ⟨d - 1, by omega⟩
          have hks : ((k + 1 : Nat) : Int) - 1 = (k : Int) := by omega
          rw [hks]
          have k0 := (HR.out.1.to hfq (by simp)).cell cd_len j 0 hjl (by omega)
          have k1 := (HR.out.1.to hfq (by simp)).cell cd_len j 1 hjl (by omega)
          simp only [Cd, List.getElem?_cons_zero, List.getElem?_cons_succ, Nat.add_zero] at k0 k1
          rw [HR.out.2.2.2.1] at k0
          rw [HR.out.2.2.2.2] at k1
          have hbt := fun W => bit05_any x y k W (by omega) hyle (by omega)
          have hts := turnN_succ x k y (by omega)
          obtain ⟨b, hb⟩ : ∃ b, x / 2 ^ (y - 1 - k) % 2 = b := ⟨_, rfl⟩
          obtain ⟨p, hp⟩ : ∃ p, turnN x y / 2 ^ (k + 1) = p := ⟨_, rfl⟩
          have hb2 : b < 2 := by omega
          rw [hb] at hbt hts
          rw [hp] at hts hdl ⊢
          have hpi : (p : Int) ≤ 32768 := by omega
          have hbi : (b : Int) ≤ 1 := by omega
          have hki : (k : Int) ≤ 15 := by omega
          have HQ := Lib.hid (And.intro hfq hts)
          have HBT := Lib.hid hbt
          clear hfq hts hbt hb hp hks htl hp15 hdl hb2
          go_wp2_with fail
          refine (HBT.out _).mono ?_
          rintro e w5 ⟨rfl, f5⟩
          have HF5 := Lib.hid f5
          clear f5
          go_wp2_with fail
          go_roundw
          case rel => exact ⟨k, by omega, rfl, by rw [HQ.out.2]; go_num, HQ.out.1.trans HF5.out⟩
          case measure => simp [intOf]
    · have hje : j = l.length := by omega
      subst hje
      have HR := Lib.hid (And.intro hO hB)
      clear hP hO hB
      go_wp2_with fail
      go_ret2
      exact ⟨g, rfl, hz1, HR.out.1.congr fun s hs => by rw [if_pos hs], Fr.of_below HR.out.2⟩

/-- A table of the document's, in memory. -/
def Rt (w : World) (tb : Nat) (l : List Nat) (F : Nat) : Prop := ∃ g, w.heap[tb]? = some (.cells #[.slice (some ⟨g, 0, none⟩) l.length l.length, .int .i64 (F : Int)] 78 (0, 0)) ∧ Prow Cd 60 w g l.length (codeP l)
theorem Rt.to {w w' : World} {tb F : Nat} {l : List Nat} (h : Rt w tb l F) (f : Fr [] w w') : Rt w' tb l F := by
  obtain ⟨g, h1, h2⟩ := h
  exact ⟨g, f.blk h1 (by simp), h2.to f (by simp)⟩
set_option maxRecDepth 2000000 in
set_option maxHeartbeats 1600000 in
theorem rnew_arg (a : Option Addr) (c : Nat) (l : List Nat) (f : Int) (w : World) (hs : SlOf U8 1 w a l) (hl : l.length ≤ 9223372036854775807) (h8 : ∀ x ∈ l, x < 256) (hf0 : -9223372036854775808 ≤ f) (hf1 : f ≤ 9223372036854775807) (hk : f < 1 ∨ 15 < f ∨ kindN l = 5) :
    Calls Try.prog 10 #[.slice a l.length c, .int .i64 f] w fun e w' => e = .returned (.tuple #[.pointer none, .int .i64 2]) ∧ Fr [] w w' := by
  have HT := Lib.hid (rkind_any a c l w hs hl h8)
  clear hs hl h8
  obtain ⟨q, hq⟩ : ∃ q, kindN l = q := ⟨_, rfl⟩
  rw [hq] at hk HT
  clear hq
  by_cases h1 : f < 1
  · clear hk
    go_enter Try.func10, Try.ntmps10
    go_wp2_with fail
    refine HT.out.mono ?_
    rintro e w1 ⟨rfl, f1⟩
    have HF := Lib.hid f1
    clear f1 HT
    go_wp2_with fail
    go_ret2
    exact ⟨rfl, HF.out⟩
  · have h1' : 1 ≤ f := by omega
    by_cases h2 : 15 < f
    · clear hk h1
      go_enter Try.func10, Try.ntmps10
      go_wp2_with fail
      refine HT.out.mono ?_
      rintro e w1 ⟨rfl, f1⟩
      have HF := Lib.hid f1
      clear f1 HT
      go_wp2_with fail
      go_ret2
      exact ⟨rfl, HF.out⟩
    · have h2' : f ≤ 15 := by omega
      have hq5 : q = 5 := by omega
      subst hq5
      clear hk h1 h2
      go_enter Try.func10, Try.ntmps10
      go_wp2_with fail
      refine HT.out.mono ?_
      rintro e w1 ⟨rfl, f1⟩
      have HF := Lib.hid f1
      clear f1 HT
      go_wp2_with fail
      go_ret2
      exact ⟨rfl, HF.out⟩
set_option maxRecDepth 2000000 in
set_option maxHeartbeats 1600000 in
theorem rnew_form (a : Option Addr) (c : Nat) (l : List Nat) (f : Int) (w : World) (hs : SlOf U8 1 w a l) (hl : l.length ≤ 9223372036854775807) (h8 : ∀ x ∈ l, x < 256) (hf0 : 1 ≤ f) (hf1 : f ≤ 15) (hk : kindN l = 4 ∨ kindN l = 3) :
    Calls Try.prog 10 #[.slice a l.length c, .int .i64 f] w fun e w' => e = .returned (.tuple #[.pointer none, .int .i64 7]) ∧ Fr [] w w' := by
  have HT := Lib.hid (rkind_any a c l w hs hl h8)
  clear hs hl h8
  obtain ⟨q, hq⟩ : ∃ q, kindN l = q := ⟨_, rfl⟩
  rw [hq] at hk HT
  clear hq
  rcases hk with rfl | rfl
  all_goals
    go_enter Try.func10, Try.ntmps10
    go_wp2_with fail
    refine HT.out.mono ?_
    rintro e w1 ⟨rfl, f1⟩
    have HF := Lib.hid f1
    clear f1 HT
    go_wp2_with fail
    go_ret2
    exact ⟨rfl, HF.out⟩
set_option maxRecDepth 2000000 in
set_option maxHeartbeats 1600000 in
theorem rnewt_any (a : Option Addr) (c : Nat) (l : List Nat) (F : Nat) (w : World) (hs : SlOf U8 1 w a l) (hl : l.length ≤ 9223372036854775807) (h8 : ∀ x ∈ l, x < 256) (hf0 : 1 ≤ F) (hf1 : F ≤ 15) (hk5 : kindN l ≠ 5) (hk4 : kindN l ≠ 4) (hk3 : kindN l ≠ 3) :
    Calls Try.prog 10 #[.slice a l.length c, .int .i64 (F : Int)] w fun e w' => ∃ tb, e = .returned (.tuple #[.pointer (some ⟨tb, 0, none⟩), .int .i64 0]) ∧ Rt w' tb l F ∧ Fr [] w w' := by
  have HT := Lib.hid (rkind_any a c l w hs hl h8)
  have HC := Lib.hid (fun W (hW : Fr [] w W) => rcodes_any a c l W (hs.below hW.below) hl h8 hk5 hk4)
  obtain ⟨q, hq⟩ : ∃ q, kindN l = q := ⟨_, rfl⟩
  rw [hq] at hk5 hk4 hk3 HT
  have g5 : ((q : Int) == 5) = false := by simp; omega
  have g4 : ((q : Int) == 4) = false := by simp; omega
  have g3 : ((q : Int) == 3) = false := by simp; omega
  have i2 : 1 ≤ (F : Int) := by omega
  have i3 : (F : Int) ≤ 15 := by omega
  clear hs hl h8 hk5 hk4 hk3 hq
  go_enter Try.func10, Try.ntmps10
  go_wp2_with fail
  refine HT.out.mono ?_
  rintro e w1 ⟨rfl, f1⟩
  have HF := Lib.hid f1
  clear f1 HT
  go_wp2_with fail
  refine (HC.out _ HF.out).mono ?_
  rintro e w2 ⟨g, rfl, _, hP, f2⟩
  have HF2 := Lib.hid (And.intro hP (HF.out.trans f2))
  clear hP f2 HC HF
  go_wp2_with fail
  go_ret2
  exact ⟨_, rfl, ⟨g, new_of w2 _, HF2.out.1.to (Fr.alloc [] _ _) (by simp)⟩, HF2.out.2.trans (Fr.alloc _ _ _)⟩
end Go.Proofs.Ytmnipgmheapfbaa

