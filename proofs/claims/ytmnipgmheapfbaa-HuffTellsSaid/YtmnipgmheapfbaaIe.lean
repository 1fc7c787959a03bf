/- The document's codes: platenref05's Codes. -/
import Derived.Test.YtmnipgmheapfbaaId
namespace Go.Proofs.Ytmnipgmheapfbaa
open Go.RowKit
set_option linter.unusedVariables false
set_option linter.unusedSimpArgs false

set_option maxRecDepth 2000000 in
set_option maxHeartbeats 1600000 in
theorem rcodes_bad (a : Option Addr) (c : Nat) (l : List Nat) (w : World) (hs : SlOf U8 1 w a l) (hl : l.length ≤ 9223372036854775807) (h8 : ∀ x ∈ l, x < 256) (er : Nat) (hk : kindN l = 5 ∧ er = 2 ∨ kindN l = 4 ∧ er = 7) :
    Calls Try.prog 33 #[.slice a l.length c] w fun e w' => e = .returned (.tuple #[.slice none 0 0, .int .i64 (er : Int)]) ∧ Fr [] w w' := by
  have HT := Lib.hid (rkind_any a c l w hs hl h8)
  clear hs hl h8
  go_enter Try.func33, Try.ntmps33
  go_wp2_with fail
  refine HT.out.mono ?_
  rintro e w1 ⟨rfl, f1⟩
  clear HT
  have HF := Lib.hid f1
  clear f1
  rcases hk with ⟨hk, rfl⟩ | ⟨hk, rfl⟩
  · rw [hk]
    clear hk
    go_wp2_with fail
    go_ret2
    exact ⟨rfl, HF.out⟩
  · rw [hk]
    clear hk
    go_wp2_with fail
    go_ret2
    exact ⟨rfl, HF.out⟩

/-- Behind all codes shorter than n, and of those that are as long the first i. -/
def codeU (l : List Nat) (n i s : Nat) : Nat × Nat := if 0 < l.getD s 0 ∧ (l.getD s 0 < n ∨ l.getD s 0 = n ∧ s < i) then (codeN l s, l.getD s 0) else (0, 0)
theorem codeU_skip (l : List Nat) (n i x s : Nat) (hx : l[i]? = some x) (hn : x ≠ n) : codeU l n (i + 1) s = codeU l n i s := by
  unfold codeU
  by_cases hs : s = i
  · subst hs
    rw [getD_of hx]
    by_cases h : 0 < x ∧ (x < n ∨ x = n ∧ s < s + 1)
    · rw [if_pos h, if_pos (by omega)]
    · rw [if_neg h, if_neg (by omega)]
  · by_cases h : 0 < l.getD s 0 ∧ (l.getD s 0 < n ∨ l.getD s 0 = n ∧ s < i + 1)
    · rw [if_pos h, if_pos (by omega)]
    · rw [if_neg h, if_neg (by omega)]
theorem codeU_hit (l : List Nat) (n i : Nat) (hx : l[i]? = some n) (hn : 0 < n) : codeU l n (i + 1) i = (codeN l i, n) ∧ ∀ s, s ≠ i → codeU l n (i + 1) s = codeU l n i s := by
  unfold codeU
  refine ⟨by rw [getD_of hx, if_pos (by omega)], fun s hs => ?_⟩
  by_cases h : 0 < l.getD s 0 ∧ (l.getD s 0 < n ∨ l.getD s 0 = n ∧ s < i + 1)
  · rw [if_pos h, if_pos (by omega)]
  · rw [if_neg h, if_neg (by omega)]
theorem codeU_turn (l : List Nat) (n s : Nat) (hs : s < l.length) : codeU l (n + 1) 0 s = codeU l n l.length s := by
  unfold codeU
  by_cases h : 0 < l.getD s 0 ∧ (l.getD s 0 < n + 1 ∨ l.getD s 0 = n + 1 ∧ s < 0)
  · rw [if_pos h, if_pos (by omega)]
  · rw [if_neg h, if_neg (by omega)]
theorem codeU_end (l : List Nat) (h : ∀ x ∈ l, x ≤ 15) (s : Nat) : codeU l 16 0 s = codeP l s := by
  have := getD_le h s
  unfold codeU codeP
  by_cases h0 : l.getD s 0 = 0
  · rw [if_neg (by omega), if_pos h0]
  · rw [if_pos (by omega), if_neg h0]

set_option maxRecDepth 2000000 in
set_option maxHeartbeats 3200000 in
theorem rcodes_any (a : Option Addr) (c : Nat) (l : List Nat) (w : World) (hs : SlOf U8 1 w a l) (hl : l.length ≤ 9223372036854775807) (h8 : ∀ x ∈ l, x < 256) (hk5 : kindN l ≠ 5) (hk4 : kindN l ≠ 4) :
    Calls Try.prog 33 #[.slice a l.length c] w fun e w' => ∃ g, e = .returned (.tuple #[.slice (some ⟨g, 0, none⟩) l.length l.length, .int .i64 0]) ∧ w.heap.size ≤ g ∧ Prow Cd 60 w' g l.length (codeP l) ∧ Fr [] w w' := by
  have hbad := kind_le hk5
  have hw := kind_wt hk5 hk4
  obtain ⟨hlen, hle⟩ := kind_ok hbad
  have HT := Lib.hid (rkind_any a c l w hs hl h8)
  have HS := Lib.hid hs
  have HFI := Lib.hid (Fine.mk hle hw)
  have i1 : (l.length : Int) ≤ 320 := by omega
  clear hs hl h8 hbad hw hlen hle
  go_enter Try.func33, Try.ntmps33
  go_wp2_with fail
  refine HT.out.mono ?_
  rintro e w1 ⟨rfl, f1⟩
  clear HT
  have HF := Lib.hid f1
  clear f1
  obtain ⟨q, hq⟩ : ∃ q, kindN l = q := ⟨_, rfl⟩
  rw [hq] at hk5 hk4 ⊢
  have g5 : ¬ (q : Int) = 5 := by omega
  have g4 : ¬ (q : Int) = 4 := by omega
  have hmk := run_make_codes l.length (by omega) w1
  have hg := HF.out.size
  have HN := Lib.hid (And.intro (show Prow Cd 60 (w1.alloc (.cells ((List.range l.length).flatMap fun j => Cd ((fun _ => (0, 0)) j)).toArray 60)) w1.heap.size l.length (fun _ => (0, 0)) from new_of w1 _) (HF.out.trans (Fr.alloc [] w1 (.cells ((List.range l.length).flatMap fun j => Cd ((fun _ => (0, 0)) j)).toArray 60))).below)
  clear hq hk5 hk4
  go_wp2_with fail
  obtain ⟨g, hgg⟩ : ∃ g, w1.heap.size = g := ⟨_, rfl⟩
  rw [hgg] at HN hg ⊢
  clear hgg hmk
  go_loopw [5, 6, 7, 8] (fun nx sz fi n wr => ∃ (m next size : Nat) (first : Bool), m ≤ 15 ∧ n = .int .i64 ((m + 1 : Nat) : Int) ∧ nx = .int .u32 (next : Int) ∧ sz = .int .i64 (size : Int) ∧ fi = .bool first ∧ RefSt l (m + 1) 0 next size first ∧ Prow Cd 60 wr g l.length (codeU l (m + 1) 0) ∧ Below w.heap.size w wr) (fun _ _ _ n _ => 17 - (intOf n).toNat)
  case atStart =>
    refine ⟨0, 0, 0, true, by omega, rfl, rfl, rfl, rfl, ref_start l, ?_, HN.out.2⟩
    refine HN.out.1.congr fun s hs => ?_
    unfold codeU
    rw [if_neg (by omega)]
  case round =>
    obtain ⟨m, next, size, first, hm, rfl, rfl, rfl, rfl, hst, hP, hB⟩ := hrel
    by_cases hm15 : m < 15
    · have hmi : (m : Int) < 15 := by omega
      have HR := Lib.hid (And.intro hst (And.intro hP hB))
      clear hst hP hB
      go_wp2_with fail
      go_loopw [5, 6, 7, 9] (fun nx sz fi i wr => ∃ (j next size : Nat) (first : Bool), j ≤ l.length ∧ i = .int .i64 (j : Int) ∧ nx = .int .u32 (next : Int) ∧ sz = .int .i64 (size : Int) ∧ fi = .bool first ∧ RefSt l (m + 1) j next size first ∧ Prow Cd 60 wr g l.length (codeU l (m + 1) j) ∧ Below w.heap.size w wr) (fun _ _ _ i _ => l.length - (intOf i).toNat)
      case atStart => exact ⟨0, next, size, first, Nat.zero_le _, rfl, rfl, rfl, rfl, HR.out.1, HR.out.2.1, HR.out.2.2⟩
      case round =>
        clear HR
        obtain ⟨j, next, size, first, hj, rfl, rfl, rfl, rfl, hst, hP, hB⟩ := hrel
        by_cases hjl : j < l.length
        · obtain ⟨x, hx⟩ : ∃ x, l[j]? = some x := ⟨l[j], List.getElem?_eq_getElem hjl⟩
          obtain ⟨b, o, rfl, hbl, hcell⟩ := (HS.out.below hB) (by intro h; rw [h] at hx; simp at hx)
          have d0 := hcell j x hx 0 (.int .u8 (x : Int)) rfl
          rw [Nat.mul_one, Nat.add_zero] at d0
          have hx15 := HFI.out.le x (List.mem_of_getElem? hx)
          have hxi : (x : Int) ≤ 15 := by omega
          have hji : (j : Int) < (l.length : Int) := by omega
          by_cases hxm : x = m + 1
          · subst hxm
            obtain ⟨hsz, hco, hst2⟩ := ref_hit hst hx
            have hlt := code_lt HFI.out hx (by omega)
            have hp15 : 2 ^ (m + 1) ≤ 2 ^ 15 := Nat.pow_le_pow_right (by decide) hx15
            have e0 := hP.cell cd_len j 0 hjl (by omega)
            have e1 := hP.cell cd_len j 1 hjl (by omega)
            have g0 := free_of hP (j * 2)
            have g1 := free_of hP (j * 2 + 1)
            have hU0 : codeU l (m + 1) j j = (0, 0) := by unfold codeU; rw [getD_of hx, if_neg (by omega)]
            rw [hU0] at e0 e1
            simp only [Cd, List.getElem?_cons_zero, List.getElem?_cons_succ, Nat.add_zero] at e0 e1
            obtain ⟨cn, hcn⟩ : ∃ cn, codeN l j = cn := ⟨_, rfl⟩
            rw [hcn] at hco hst2 hlt
            have hcni : cn ≤ 32768 := by omega
            obtain ⟨st, hst0⟩ : ∃ st, (if first = true then next else next + 1) = st := ⟨_, rfl⟩
            rw [hst0] at hco
            have hstle : st ≤ cn := by
              rw [← hco]; exact Nat.le_mul_of_pos_right _ (Nat.pow_pos (by decide))
            have hsti : (st : Int) ≤ 32768 := by omega
            have hszi : (size : Int) ≤ ((m + 1 : Nat) : Int) := by omega
            have hsz16 : (size : Int) ≤ 15 := by omega
            have HR := Lib.hid (And.intro hP (And.intro hB (And.intro hst2 (And.intro hx (And.intro hcn (And.intro hco (And.intro hsz hcni)))))))
            have hmne : ((((m + 1 : Nat) : Int)) != ((m + 1 : Nat) : Int)) = false := by simp
            clear hst hP hB hst2 hx hcell hx15 hlt hp15 hU0 hcn hco hstle hsz hbl hcni
            cases first with
            | true =>
              simp only [if_true] at hst0
              subst hst0
              go_wp2_with fail
              go_loop [5, 6] (fun nx sz => ∃ d : Nat, size + d ≤ m + 1 ∧ sz = .int .i64 ((size + d : Nat) : Int) ∧ nx = .int .u32 ((next * 2 ^ d : Nat) : Int)) (fun _ sz => m + 1 - (intOf sz).toNat)
              case atStart => exact ⟨0, by have := HR.out.2.2.2.2.2.2.1; omega, rfl, by rw [Nat.pow_zero, Nat.mul_one]⟩
              case round =>
                obtain ⟨d, hd, rfl, rfl⟩ := hrel
                have hco := HR.out.2.2.2.2.2.1
                have hcn8 := HR.out.2.2.2.2.2.2.2
                have hle1 : next * 2 ^ d ≤ next * 2 ^ (m + 1 - size) := Nat.mul_le_mul_left _ (Nat.pow_le_pow_right (by decide) (by omega))
                have hps : next * 2 ^ (d + 1) = 2 * (next * 2 ^ d) := by rw [Nat.pow_succ', Nat.mul_left_comm]
                obtain ⟨p, hp⟩ : ∃ p, next * 2 ^ d = p := ⟨_, rfl⟩
                obtain ⟨zd, hzd⟩ : ∃ zd, size + d = zd := ⟨_, rfl⟩
                rw [hp] at hps hle1 ⊢
                rw [hzd] at hd ⊢
                have hpi : (p : Int) ≤ 32768 := by omega
                by_cases hlt : zd < m + 1
                · have hle2 : next * 2 ^ (d + 1) ≤ next * 2 ^ (m + 1 - size) := Nat.mul_le_mul_left _ (Nat.pow_le_pow_right (by decide) (by omega))
                  have hzi : (zd : Int) < ((m + 1 : Nat) : Int) := by omega
                  have hp2 : 2 * (p : Int) ≤ 32768 := by omega
                  have HP := Lib.hid (And.intro hps hzd)
                  clear hps hp hzd hle1 hle2 hco hcn8
                  go_wp2_with fail
                  go_round
                  case rel =>
                    refine ⟨d + 1, by have := HP.out.2; omega, ?_, ?_⟩
                    · rw [← Nat.add_assoc, HP.out.2]; go_num
                    · rw [HP.out.1]; go_num
                  case measure => simp [intOf]; omega
                · have hde : d = m + 1 - size := by omega
                  have hpc : p = cn := by rw [← hp, hde, hco]
                  have hzi : ((m + 1 : Nat) : Int) ≤ (zd : Int) := by omega
                  subst hpc
                  have hze : zd = m + 1 := by omega
                  subst hze
                  clear hps hp hzd hle1 hco hcn8 hde hzi
                  go_wp2_with fail
                  go_roundw
                  case rel =>
                    obtain ⟨hP, hB, hst2, hx, hcn, _⟩ := HR.out
                    refine ⟨j + 1, _, m + 1, false, by omega, by go_num, rfl, rfl, rfl, hst2, ?_, ?_⟩
                    · obtain ⟨u1, u2⟩ := codeU_hit l (m + 1) j hx (by omega)
                      exact hP.set_ (G := codeU l (m + 1) (j + 1)) cd_len j hjl _ _ (fun s hs hsj => u2 s hsj) (by rw [u1, hcn]; rfl)
                    · exact (Fr.setCell _ g _ _).out ((Fr.setCell _ g _ _).out hB (by simp; omega)) (by simp; omega)
                  case measure => simp [intOf]; omega
            | false =>
              simp only [Bool.false_eq_true, if_false] at hst0
              have hn1 : (next : Int) + 1 = (st : Int) := by omega
              have hni : (next : Int) ≤ 32768 := by omega
              clear hst0
              go_wp2_with fail
              go_loop [5, 6] (fun nx sz => ∃ d : Nat, size + d ≤ m + 1 ∧ sz = .int .i64 ((size + d : Nat) : Int) ∧ nx = .int .u32 ((st * 2 ^ d : Nat) : Int)) (fun _ sz => m + 1 - (intOf sz).toNat)
              case atStart => exact ⟨0, by have := HR.out.2.2.2.2.2.2.1; omega, rfl, by rw [Nat.pow_zero, Nat.mul_one]⟩
              case round =>
                obtain ⟨d, hd, rfl, rfl⟩ := hrel
                have hco := HR.out.2.2.2.2.2.1
                have hcn8 := HR.out.2.2.2.2.2.2.2
                have hle1 : st * 2 ^ d ≤ st * 2 ^ (m + 1 - size) := Nat.mul_le_mul_left _ (Nat.pow_le_pow_right (by decide) (by omega))
                have hps : st * 2 ^ (d + 1) = 2 * (st * 2 ^ d) := by rw [Nat.pow_succ', Nat.mul_left_comm]
                obtain ⟨p, hp⟩ : ∃ p, st * 2 ^ d = p := ⟨_, rfl⟩
                obtain ⟨zd, hzd⟩ : ∃ zd, size + d = zd := ⟨_, rfl⟩
                rw [hp] at hps hle1 ⊢
                rw [hzd] at hd ⊢
                have hpi : (p : Int) ≤ 32768 := by omega
                by_cases hlt : zd < m + 1
                · have hle2 : st * 2 ^ (d + 1) ≤ st * 2 ^ (m + 1 - size) := Nat.mul_le_mul_left _ (Nat.pow_le_pow_right (by decide) (by omega))
                  have hzi : (zd : Int) < ((m + 1 : Nat) : Int) := by omega
                  have hp2 : 2 * (p : Int) ≤ 32768 := by omega
                  have HP := Lib.hid (And.intro hps hzd)
                  clear hps hp hzd hle1 hle2 hco hcn8
                  go_wp2_with fail
                  go_round
                  case rel =>
                    refine ⟨d + 1, by have := HP.out.2; omega, ?_, ?_⟩
                    · rw [← Nat.add_assoc, HP.out.2]; go_num
                    · rw [HP.out.1]; go_num
                  case measure => simp [intOf]; omega
                · have hde : d = m + 1 - size := by omega
                  have hpc : p = cn := by rw [← hp, hde, hco]
                  have hzi : ((m + 1 : Nat) : Int) ≤ (zd : Int) := by omega
                  subst hpc
                  have hze : zd = m + 1 := by omega
                  subst hze
                  clear hps hp hzd hle1 hco hcn8 hde hzi
                  go_wp2_with fail
                  go_roundw
                  case rel =>
                    obtain ⟨hP, hB, hst2, hx, hcn, _⟩ := HR.out
                    refine ⟨j + 1, _, m + 1, false, by omega, by go_num, rfl, rfl, rfl, hst2, ?_, ?_⟩
                    · obtain ⟨u1, u2⟩ := codeU_hit l (m + 1) j hx (by omega)
                      exact hP.set_ (G := codeU l (m + 1) (j + 1)) cd_len j hjl _ _ (fun s hs hsj => u2 s hsj) (by rw [u1, hcn]; rfl)
                    · exact (Fr.setCell _ g _ _).out ((Fr.setCell _ g _ _).out hB (by simp; omega)) (by simp; omega)
                  case measure => simp [intOf]; omega
          · have hxne : ((x : Int) == ((m + 1 : Nat) : Int)) = false := by simp; omega
            have hxne2 : ((x : Int) != ((m + 1 : Nat) : Int)) = true := by simp; omega
            have hxne3 : ¬ (x : Int) = ((m + 1 : Nat) : Int) := by omega
            have HR := Lib.hid (And.intro hst (And.intro hP (And.intro hB hx)))
            clear hst hP hB hx hcell hx15 hbl
            go_wp2_with fail
            go_roundw
            case rel =>
              refine ⟨j + 1, next, size, first, by omega, by go_num, rfl, rfl, rfl, ref_skip HR.out.1 HR.out.2.2.2 hxm, ?_, HR.out.2.2.1⟩
              exact HR.out.2.1.congr fun s hs => codeU_skip l (m + 1) j x s HR.out.2.2.2 hxm
            case measure => simp [intOf]; omega
        · have hje : j = l.length := by omega
          subst hje
          have HR := Lib.hid (And.intro hst (And.intro hP hB))
          clear hst hP hB
          go_wp2_with fail
          go_roundw
          case rel =>
            refine ⟨m + 1, next, size, first, by omega, by go_num, rfl, rfl, rfl, ref_turn HR.out.1, ?_, HR.out.2.2⟩
            exact HR.out.2.1.congr fun s hs => codeU_turn l (m + 1) s hs
          case measure => simp [intOf]; omega
    · have hme : m = 15 := by omega
      subst hme
      have HR := Lib.hid (And.intro hP hB)
      clear hst hP hB
      go_wp2_with fail
      go_ret2
      exact ⟨g, rfl, hg, HR.out.1.congr fun s hs => (codeU_end l HFI.out.le s).symm, Fr.of_below HR.out.2⟩
end Go.Proofs.Ytmnipgmheapfbaa

