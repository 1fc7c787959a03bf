/- PackWhole: its walk. -/
import Derived.Test.YtmajacfcfdljeaaPk
import Derived.Test.YtmajacfcfdljeaaHe
import Derived.Deep.OwnRows
namespace Go.Proofs.Ytmajacfcfdljeaa
open Go.RowKit
set_option linter.unusedVariables false
set_option linter.unusedSimpArgs false

/-- A row of whole numbers that is made. -/
theorem run_make_nats (w : World) (n : Nat) (hn : n ≤ 1000000000) : (Instr.makeSlice 22 (.int .i64 (n : Int)) (.int .i64 (n : Int))).run Try.prog w =
    .ok (.slice (some ⟨w.heap.size, 0, none⟩) n n) (w.alloc (.cells (madeCells #[.int .i64 0] n) 3)) :=
  run_make_row' 22 3 (.int .i64 0) 8 Try.underlying22 (by kernel_rfl) rfl .i64 .i64 n (by omega) (by omega) w
theorem made_nats (w : World) (n : Nat) : Nrow (w.alloc (.cells (madeCells #[.int .i64 0] n) 3)) w.heap.size 3 .i64 n (fun _ => 0) := by
  unfold Nrow
  rw [new_of]
  congr 2
  apply Array.ext
  · rw [size_madeCells]; simp
  · intro i h1 h2
    simp [madeCells, Nat.mod_one]
theorem sl_irow {w : World} {g n : Nat} {F : Nat → Nat} (h : Nrow w g 3 .i64 n F) : SlOf (Zn .i64) 1 w (some ⟨g, 0, none⟩) ((List.range n).map fun i => (F i : Int)) := fun _ => by
  refine ⟨g, 0, rfl, lt_of h, fun i x hi j u hu => ?_⟩
  have hj : j = 0 := by
    have := (List.getElem?_eq_some_iff.1 hu).1
    simp [Zn] at this
    exact this
  subst hj
  have hin : i < n := by have := (List.getElem?_eq_some_iff.1 hi).1; simpa using this
  rw [List.getElem?_map, List.getElem?_range hin] at hi
  simp at hi
  subst hi
  rw [Nat.zero_add, Nat.mul_one, Nat.add_zero, h.cell i hin, ← hu]
  rfl
/-- Counts, as a list. -/
def ctL (F : Nat → Nat) (n : Nat) : List Int := (List.range n).map fun i => (F i : Int)
theorem ctL_len (F : Nat → Nat) (n : Nat) : (ctL F n).length = n := by simp [ctL]
theorem ctL_get (F : Nat → Nat) (n i : Nat) (h : i < n) : (ctL F n)[i]? = some (F i : Int) := by simp [ctL, h]
theorem ctL_mem {F : Nat → Nat} {n B : Nat} (h : ∀ i, i < n → F i ≤ B) : ∀ x ∈ ctL F n, 0 ≤ x ∧ x ≤ (B : Int) := by
  intro x hx
  obtain ⟨i, hi, rfl⟩ := List.mem_map.1 hx
  have := h i (List.mem_range.1 hi)
  omega
theorem ctL_of {F : Nat → Nat} {n i : Nat} {c : Int} (h : (ctL F n)[i]? = some c) : i < n ∧ c = (F i : Int) := by
  have hi : i < n := by have := (List.getElem?_eq_some_iff.1 h).1; rwa [ctL_len] at this
  rw [ctL_get F n i hi] at h
  exact ⟨hi, by simpa using h.symm⟩
/-- How many of the first j count. -/
def posN (F : Nat → Nat) : Nat → Nat
  | 0 => 0
  | j + 1 => posN F j + if 0 < F j then 1 else 0
theorem posN_le (F : Nat → Nat) : ∀ j, posN F j ≤ j
  | 0 => Nat.le_refl _
  | j + 1 => by have := posN_le F j; simp only [posN]; split <;> omega
theorem posN_tot (F : Nat → Nat) : ∀ j, posN F j = tot (fun s => if 0 < F s then 1 else 0) (List.range j)
  | 0 => rfl
  | j + 1 => by rw [posN, posN_tot F j, List.range_succ, tot_append]; simp [tot]
theorem posN_sort (F : Nat → Nat) (n : Nat) : posN F n = (sortC (ctL F n)).length := by
  have h := tot_sortC (ctL F n) (fun s => if 0 < F s then 1 else 0) (fun i c hi hc => by
    obtain ⟨h1, rfl⟩ := ctL_of hi
    rw [if_neg (by omega)])
  rw [ctL_len] at h
  rw [posN_tot, h, tot_congr _ (fun _ => 1) _ (fun p hp => by
    obtain ⟨c, hc, h0, _⟩ := (sortC_mem _ p).1 hp
    obtain ⟨h1, rfl⟩ := ctL_of hc
    rw [if_pos (by omega)]), tot_length]
theorem ctL_good {F : Nat → Nat} {n : Nat} (hn : n ≤ 320) (h : ∀ i, i < n → F i ≤ 1073741824) : ¬ badC (ctL F n) :=
  badC_not (by rw [ctL_len]; exact hn) (ctL_mem h)
theorem ctL_bad {F : Nat → Nat} {n : Nat} (hn : n ≤ 320) (h : ∀ i, i < n → F i ≤ 1073741824) {M : Nat} (h1 : 1 ≤ M) (h2 : M ≤ 15) : badP (ctL F n) (M : Int) ↔ M < needN (posN F n : Int) := by
  rw [posN_sort]
  unfold badP
  constructor
  · rintro (h' | h' | h' | h')
    · exact absurd h' (ctL_good hn h)
    · omega
    · omega
    · omega
  · intro h'
    exact .inr (.inr (.inr (by omega)))
/-- pack.Lens, of counts that are in a row of their own. -/
theorem lens_row (g n cp M : Nat) (F : Nat → Nat) (w : World) (hN : Nrow w g 3 .i64 n F) (hn : n ≤ 320) (hF : ∀ i, i < n → F i ≤ 1073741824) (h1 : 1 ≤ M) (h2 : M ≤ 15) :
    Calls Try.prog 9 #[.slice (some ⟨g, 0, none⟩) n cp, .int .i64 (M : Int)] w fun e w' => Fr [] w w' ∧ (M < needN (posN F n : Int) ∧ e = .returned (.tuple #[.slice none 0 0, .int .i64 2]) ∨ needN (posN F n : Int) ≤ M ∧ ∃ gl, e = .returned (.tuple #[.slice (some ⟨gl, 0, none⟩) n n, .int .i64 0]) ∧ w.heap.size ≤ gl ∧ Nrow w' gl 5 .u8 n (lenS (ctL F n) M)) := by
  have h := lens_any (some ⟨g, 0, none⟩) cp (ctL F n) (M : Int) w (sl_irow hN) (by rw [ctL_len]; omega) (by omega) (by omega)
  rw [ctL_len, Int.toNat_natCast] at h
  refine h.mono fun e w' ⟨k1, k2⟩ => ⟨k1, ?_⟩
  rcases k2 with ⟨k2, k3⟩ | ⟨k2, k3⟩
  · exact .inl ⟨(ctL_bad hn hF h1 h2).1 k2, k3⟩
  · rw [ctL_bad hn hF h1 h2] at k2
    exact .inr ⟨by omega, k3⟩

/-- What holds at the head of a round of the loop that fills the counts. -/
def FillR (w : World) (gc n : Nat) (F : Nat → Nat) (v7 v8 : Value) (wr : World) : Prop :=
  ∃ j : Nat, v8 = .int .i64 (j : Int) ∧ j ≤ n ∧ v7 = .int .i64 (posN F j : Nat) ∧ Nrow wr gc 3 .i64 n (fun s => if s < j then F s else 0) ∧ Fr [] w wr
set_option maxRecDepth 2000000 in
set_option maxHeartbeats 6400000 in
theorem packWhole_walk (w : World) (a0 : Option Addr) (c0 : Nat) (x0 : List Nat) (l0 : x0.length ≤ maxLen) (s0 : SlOf (Un .u32) 1 w a0 x0) (o0 : ∀ x, x ∈ x0 → x < 4294967296) (a1 : Int) (w1 : (Lit.int .u8 a1).wf = true) :
    Calls Try.prog 7 #[.slice a0 x0.length c0, .int .u8 a1] w fun e w' => e = .returned (.bool true) ∧ Below w.heap.size w w' := by
  unfold maxLen at l0
  have hl1 : (x0.length : Int) ≤ 9223372036854775807 := by omega
  have HA := Lib.hid alive_any
  have ha1 : 0 ≤ a1 ∧ a1 ≤ 255 := by simp [Lit.wf, IntKind.min, IntKind.max, IntKind.signed, IntKind.bits] at w1; omega
  obtain ⟨ha2, ha3⟩ := ha1
  clear w1
  by_cases hbig : 320 < x0.length
  · have h1 : (320 : Int) < (x0.length : Int) := by omega
    clear hbig s0 o0 l0
    go_enter Try.func7, Try.ntmps7
    go_wp2_with fail
    refine (HA.out _).mono ?_
    rintro e w1 ⟨rfl, hf⟩
    have HF := Lib.hid hf
    clear hf
    go_wp2_with fail
    go_ret
    exact ⟨rfl, HF.out.below⟩
  obtain ⟨n, hn⟩ : ∃ n, x0.length = n := ⟨_, rfl⟩
  rw [hn] at hbig hl1 ⊢
  have h1 : (n : Int) ≤ 320 := by omega
  obtain ⟨q, hq⟩ : ∃ q : Nat, a1 % 15 = (q : Int) := ⟨(a1 % 15).toNat, by omega⟩
  have hq14 : q ≤ 14 := by omega
  obtain ⟨M, hM⟩ : ∃ M, q + 1 = M := ⟨_, rfl⟩
  have hqi : (q : Int) ≤ 14 := by omega
  have eM : (q : Int) + 1 = (M : Int) := by omega
  obtain ⟨F, hF⟩ : ∃ F : Nat → Nat, F = fun s => x0.getD s 0 % 1073741824 := ⟨_, rfl⟩
  have hFb : ∀ s, F s ≤ 1073741823 := fun s => by rw [hF]; have := Nat.mod_lt (x0.getD s 0) (show 0 < 1073741824 by decide); simp only; omega
  have HX := Lib.hid (And.intro s0 (And.intro o0 (And.intro hn (And.intro hF (And.intro hFb (And.intro (show 1 ≤ M ∧ M ≤ 15 by omega) hbig))))))
  have hmk := run_make_nats w n (by omega)
  have hN0 := Lib.hid (made_nats w n)
  clear s0 o0 hn hF hFb hbig l0 hq14 hM
  go_enter Try.func7, Try.ntmps7
  go_wp2_with fail
  go_loopw [7, 8] (fun v7 v8 wr => FillR w w.heap.size n F v7 v8 wr) (fun _ v8 _ => n - (intOf v8).toNat)
  case atStart => exact ⟨0, rfl, Nat.zero_le _, rfl, hN0.out.congr fun s _ => by simp, Fr.alloc [] _ _⟩
  case round =>
    obtain ⟨j, rfl, hj, rfl, hN, hf⟩ := hrel
    by_cases hjn : j < n
    · have hji : (j : Int) < (n : Int) := by omega
      obtain ⟨x, hx⟩ : ∃ x, x0[j]? = some x := ⟨x0[j]'(by have := HX.out.2.2.1; omega), List.getElem?_eq_getElem _⟩
      obtain ⟨g1, o1, rfl, hb1, hc1⟩ := (HX.out.1.below hf.below) (by intro h; rw [h] at hx; simp at hx)
      have c1 := hc1 j x hx 0 (.int .u32 (x : Int)) rfl
      rw [Nat.mul_one, Nat.add_zero] at c1
      have hx32 := HX.out.2.1 x (List.mem_of_getElem? hx)
      obtain ⟨y, hy⟩ : ∃ y, x % 1073741824 = y := ⟨_, rfl⟩
      have ey : (x : Int) % 1073741824 = (y : Int) := by omega
      have hyb : (y : Int) ≤ 1073741823 := by omega
      have hFj : F j = y := by rw [HX.out.2.2.2.1]; simp only [List.getD_eq_getElem?_getD, hx, Option.getD_some]; exact hy
      have hset := hN.set_ (G := fun s => if s < j + 1 then F s else 0) j y (fun s _ => by
        by_cases h : s = j
        · subst h; simp [hFj]
        · simp only [if_neg h]
          by_cases h2 : s < j
          · rw [if_pos h2, if_pos (by omega)]
          · rw [if_neg h2, if_neg (by omega)])
      have d1 := hN.cell j hjn
      have fz := free_of hN j
      simp only [Nat.lt_irrefl, if_false] at d1
      have hx9 : (x : Int) ≤ 4294967295 := by omega
      have hd : w.heap.size < wr.heap.size := lt_of hN
      have hp := posN_le F j
      obtain ⟨P, hP⟩ : ∃ P, posN F j = P := ⟨_, rfl⟩
      rw [hP] at hp ⊢
      have hp2 : (P : Int) ≤ 320 := by omega
      by_cases hy0 : 0 < y
      · have hyi : 0 < (y : Int) := by omega
        have HS := Lib.hid (And.intro hset (And.intro hf (And.intro hFj (And.intro hP hy0))))
        clear hset hf hFj hx hc1 hx32 hy hN hP hy0 hp
        go_wp2_with fail
        obtain ⟨hset, hf, hFj, hP, hy0⟩ := HS.out
        refine ⟨⟨j + 1, by go_num, by omega, ?_, hset, ?_⟩, by simp [intOf]; omega⟩
        · simp only [posN, hFj, if_pos hy0, hP]; go_num
        · exact (Fr.setCell _ _ _ _).outL hf fun i hi => .inr (by simp at hi; omega)
      · have hyi : (y : Int) ≤ 0 := by omega
        have hyd : decide (0 < (y : Int)) = false := by simp; omega
        have HS := Lib.hid (And.intro hset (And.intro hf (And.intro hFj (And.intro hP hy0))))
        clear hset hf hFj hx hc1 hx32 hy hN hP hy0 hp
        go_wp2_with fail
        obtain ⟨hset, hf, hFj, hP, hy0⟩ := HS.out
        refine ⟨⟨j + 1, by go_num, by omega, ?_, hset, ?_⟩, by simp [intOf]; omega⟩
        · simp only [posN, hFj, if_neg hy0, hP]; go_num
        · exact (Fr.setCell _ _ _ _).outL hf fun i hi => .inr (by simp at hi; omega)
    · have hje : j = n := by omega
      subst hje
      have hN' := hN.congr (G := F) fun s hs => by simp only [if_pos hs]
      obtain ⟨hM1, hM15⟩ := HX.out.2.2.2.2.2.1
      have HL := Lib.hid (lens_row w.heap.size j j M F wr hN' (by omega) (fun i _ => by have := HX.out.2.2.2.2.1 i; omega) hM1 hM15)
      have hp := posN_le F j
      obtain ⟨P, hP⟩ : ∃ P, posN F j = P := ⟨_, rfl⟩
      rw [hP] at hp HL ⊢
      have hp2 : (P : Int) ≤ 320 := by omega
      obtain ⟨nd, hnd⟩ : ∃ nd, needN (P : Int) = nd := ⟨_, rfl⟩
      rw [hnd] at HL
      have HN := Lib.hid (fun W => needs_any (P : Int) W (by omega) (by omega))
      rw [hnd] at HN
      have HF := Lib.hid (And.intro hf (And.intro hN' (And.intro hP hnd)))
      have hMi : 1 ≤ (M : Int) := by omega
      have hMj : (M : Int) ≤ 15 := by omega
      clear hf hN hN' hP hnd hj hjn hM1 hM15 hp
      go_wp2_with fail
      refine HL.out.mono ?_
      rintro e w2 ⟨f2, ⟨hlt, rfl⟩ | ⟨hle, gl, rfl, hge, hN2⟩⟩
      · have hlt2 : (M : Int) < (nd : Int) := by omega
        have HF2 := Lib.hid (HF.out.1.trans f2)
        clear f2 HL
        go_wp2_with fail
        refine (HN.out _).mono ?_
        rintro e w3 ⟨rfl, hw⟩
        replace hw := hw.symm
        subst hw
        go_wp2_with fail
        refine (HA.out _).mono ?_
        rintro e w4 ⟨rfl, hf4⟩
        have HF4 := Lib.hid (HF2.out.trans hf4)
        clear hf4
        go_wp2_with fail
        go_ret
        exact ⟨rfl, HF4.out.below⟩
      · have hle2 : (nd : Int) ≤ (M : Int) := by omega
        have hled : decide (M < nd) = false := by simp; omega
        have hgl : w2.heap.size = w2.heap.size := rfl
        have hgl : gl ≠ w.heap.size := by have := lt_of HF.out.2.1; omega
        have HH := Lib.hid (And.intro (HF.out.1.trans f2) (And.intro (HF.out.2.1.to f2 (by simp)) hN2))
        clear f2 HL hge hN2 hle
        go_wp2_with fail
        refine (HN.out _).mono ?_
        rintro e w3 ⟨rfl, hw⟩
        replace hw := hw.symm
        subst hw
        have hr : (sortC (ctL F j)).length ≤ 2 ^ M := by
          rw [← posN_sort]
          exact need_room (by rw [HF.out.2.2.1, HF.out.2.2.2]; omega)
        have HR := Lib.hid hr
        clear hr
        obtain ⟨wo, hwo⟩ : ∃ wo, wo = w2 := ⟨w2, rfl⟩
        subst hwo
        go_wp2_with fail
        go_loopw [11, 12] (fun v11 _ wr => ∃ i : Nat, v11 = .int .i64 (i : Int) ∧ i ≤ j ∧ Fr [] wo wr) (fun v11 _ _ => j - (intOf v11).toNat)
        case atStart => exact ⟨0, rfl, Nat.zero_le _, Fr.refl _ _⟩
        case round =>
          obtain ⟨i, rfl, hi, hf⟩ := hrel
          by_cases hij : i < j
          · have hii : (i : Int) < (j : Int) := by omega
            have d1 := (HH.out.2.2.to hf (by simp)).cell i hij
            have d2 := (HH.out.2.1.to hf (by simp)).cell i hij
            obtain ⟨hM1, hM15⟩ := HX.out.2.2.2.2.2.1
            have hx1 := lens_fits (ctL F j) M hM1 HR.out i
            have hx2 := lens_pos (ctL F j) M hM1 HR.out i
            rw [ctL_get F j i hij] at hx2
            obtain ⟨x, hx⟩ : ∃ x, lenS (ctL F j) M i = x := ⟨_, rfl⟩
            obtain ⟨y, hy⟩ : ∃ y, F i = y := ⟨_, rfl⟩
            rw [hx] at d1 hx1 hx2
            rw [hy] at d2 hx2
            have hyb : y ≤ 1073741823 := by rw [← hy]; exact HX.out.2.2.2.2.1 i
            have hdM : decide (M < x) = false := by simp; omega
            have hxi : (x : Int) ≤ 15 := by omega
            have hyi : (y : Int) ≤ 1073741823 := by omega
            have hglt := lt_of (HH.out.2.2.to hf (by simp))
            have hclt := lt_of (HH.out.2.1.to hf (by simp))
            have HI := Lib.hid (And.intro hx (And.intro hy hf))
            have hcase : (0 < y ∧ 0 < x) ∨ (¬ 0 < y ∧ ¬ 0 < x) := by
              by_cases h0 : 0 < y
              · exact .inl ⟨h0, hx2.2 ⟨y, rfl, by omega⟩⟩
              · refine .inr ⟨h0, fun h => ?_⟩
                obtain ⟨c, hc, hc0⟩ := hx2.1 h
                simp at hc
                omega
            clear hx hy hf hx2 hx1 hyb hM1 hM15
            rcases hcase with ⟨hy0, hx0⟩ | ⟨hy0, hx0⟩
            · have hy0i : 0 < (y : Int) := by omega
              have hx0i : 0 < (x : Int) := by omega
              go_wp2_with fail
              refine wp_region_quiet_tail 19 (by kernel_rfl) (by kernel_rfl) ?_
              simp only [List.take_succ_cons, List.take_zero, List.drop_succ_cons, List.drop_zero]
              repeat go_big_quiet_step (fail)
              refine wpQuiet_nil ?_
              have HG := Lib.hid (show 0 < y ∨ ¬ 0 < y from .inl hy0)
              clear hy0 hx0 hy0i hx0i hdM
              go_wp2_with fail
              obtain ⟨HD, hHD⟩ : ∃ HD : Fr [] wo wr, HD = HI.out.2.2 := ⟨_, rfl⟩
              clear hHD d1 d2
              have HE := Lib.hid HD
              clear HD
              go_loopw [12] (fun v12 wr => ∃ k : Nat, v12 = .int .i64 (k : Int) ∧ k ≤ j ∧ Fr [] wo wr) (fun v12 _ => j - (intOf v12).toNat)
              case atStart => exact ⟨0, rfl, Nat.zero_le _, HE.out.drew⟩
              case round =>
                obtain ⟨k, rfl, hk, hf⟩ := hrel
                by_cases hkj : k < j
                · have hki : (k : Int) < (j : Int) := by omega
                  have d1 := (HH.out.2.2.to hf (by simp)).cell i hij
                  have d2 := (HH.out.2.1.to hf (by simp)).cell i hij
                  have d3 := (HH.out.2.2.to hf (by simp)).cell k hkj
                  have d4 := (HH.out.2.1.to hf (by simp)).cell k hkj
                  rw [HI.out.1] at d1
                  rw [HI.out.2.1] at d2
                  obtain ⟨u, hu⟩ : ∃ u, lenS (ctL F j) M k = u := ⟨_, rfl⟩
                  obtain ⟨v, hv⟩ : ∃ v, F k = v := ⟨_, rfl⟩
                  rw [hu] at d3
                  rw [hv] at d4
                  have hvb : (v : Int) ≤ 1073741823 := by have := HX.out.2.2.2.2.1 k; omega
                  have hub : (u : Int) ≤ 15 := by
                    have := lens_fits (ctL F j) M HX.out.2.2.2.2.2.1.1 HR.out k
                    have := HX.out.2.2.2.2.2.1.2
                    omega
                  have hglt := lt_of (HH.out.2.2.to hf (by simp))
                  have hclt := lt_of (HH.out.2.1.to hf (by simp))
                  have hfall : v < y → 0 < v → x ≤ u := fun h1 h2 => by
                    have := lens_falls (ctL F j) M HX.out.2.2.2.2.2.1.1 HR.out i k (y : Int) (v : Int) (by rw [ctL_get F j i hij, HI.out.2.1]) (by rw [ctL_get F j k hkj, hv]) (by omega) (by omega)
                    rw [HI.out.1, hu] at this
                    exact this
                  have HJ := Lib.hid hf
                  clear hu hv hf
                  by_cases hvy : v < y
                  · by_cases hv0 : 0 < v
                    · have hxu : decide (u < x) = false := by have := hfall hvy hv0; simp; omega
                      have hv0i : 0 < (v : Int) := by omega
                      have hvyi : (v : Int) < (y : Int) := by omega
                      clear hfall
                      go_wp2_with fail
                      refine wp_region_quiet_tail 26 (by kernel_rfl) (by kernel_rfl) ?_
                      simp only [List.take_succ_cons, List.take_zero, List.drop_succ_cons, List.drop_zero]
                      repeat go_big_quiet_step (fail)
                      refine wpQuiet_nil ?_
                      go_wp2_with fail
                      go_roundw
                      case rel => exact ⟨k + 1, by go_num, by omega, HJ.out.drew⟩
                      case measure => simp [intOf]; omega
                    · have hv0d : decide (0 < (v : Int)) = false := by simp; omega
                      have hv0i : (v : Int) ≤ 0 := by omega
                      have hvyi : (v : Int) < (y : Int) := by omega
                      clear hfall
                      go_wp2_with fail
                      refine wp_region_quiet_tail 26 (by kernel_rfl) (by kernel_rfl) ?_
                      simp only [List.take_succ_cons, List.take_zero, List.drop_succ_cons, List.drop_zero]
                      repeat go_big_quiet_step (fail)
                      refine wpQuiet_nil ?_
                      go_wp2_with fail
                      go_roundw
                      case rel => exact ⟨k + 1, by go_num, by omega, HJ.out.drew⟩
                      case measure => simp [intOf]; omega
                  · have hvyd : decide (v < y) = false := by simp; omega
                    clear hfall
                    go_wp2_with fail
                    refine wp_region_quiet_tail 26 (by kernel_rfl) (by kernel_rfl) ?_
                    simp only [List.take_succ_cons, List.take_zero, List.drop_succ_cons, List.drop_zero]
                    repeat go_big_quiet_step (fail)
                    refine wpQuiet_nil ?_
                    go_wp2_with fail
                    go_roundw
                    case rel => exact ⟨k + 1, by go_num, by omega, HJ.out.drew⟩
                    case measure => simp [intOf]; omega
                · have hkd : decide (k < j) = false := by simp; omega
                  have HJ := Lib.hid hf
                  clear hf
                  go_wp2_with fail
                  go_roundw
                  case rel => exact ⟨i + 1, by go_num, by omega, HJ.out⟩
                  case measure => simp [intOf]; omega
            · have hy0i : (y : Int) ≤ 0 := by omega
              have hx0i : (x : Int) ≤ 0 := by omega
              have hy0d : decide (0 < (y : Int)) = false := by simp; omega
              have hx0d : decide (0 < (x : Int)) = false := by simp; omega
              go_wp2_with fail
              refine wp_region_quiet_tail 19 (by kernel_rfl) (by kernel_rfl) ?_
              simp only [List.take_succ_cons, List.take_zero, List.drop_succ_cons, List.drop_zero]
              repeat go_big_quiet_step (fail)
              refine wpQuiet_nil ?_
              have HG := Lib.hid (show 0 < y ∨ ¬ 0 < y from .inr hy0)
              clear hy0 hx0 hy0i hx0i hdM hy0d hx0d
              go_wp2_with fail
              obtain ⟨HD, hHD⟩ : ∃ HD : Fr [] wo wr, HD = HI.out.2.2 := ⟨_, rfl⟩
              clear hHD d1 d2
              have HE := Lib.hid HD
              clear HD
              go_loopw [12] (fun v12 wr => ∃ k : Nat, v12 = .int .i64 (k : Int) ∧ k ≤ j ∧ Fr [] wo wr) (fun v12 _ => j - (intOf v12).toNat)
              case atStart => exact ⟨0, rfl, Nat.zero_le _, HE.out.drew⟩
              case round =>
                obtain ⟨k, rfl, hk, hf⟩ := hrel
                by_cases hkj : k < j
                · have hki : (k : Int) < (j : Int) := by omega
                  have d1 := (HH.out.2.2.to hf (by simp)).cell i hij
                  have d2 := (HH.out.2.1.to hf (by simp)).cell i hij
                  have d3 := (HH.out.2.2.to hf (by simp)).cell k hkj
                  have d4 := (HH.out.2.1.to hf (by simp)).cell k hkj
                  rw [HI.out.1] at d1
                  rw [HI.out.2.1] at d2
                  obtain ⟨u, hu⟩ : ∃ u, lenS (ctL F j) M k = u := ⟨_, rfl⟩
                  obtain ⟨v, hv⟩ : ∃ v, F k = v := ⟨_, rfl⟩
                  rw [hu] at d3
                  rw [hv] at d4
                  have hvb : (v : Int) ≤ 1073741823 := by have := HX.out.2.2.2.2.1 k; omega
                  have hub : (u : Int) ≤ 15 := by
                    have := lens_fits (ctL F j) M HX.out.2.2.2.2.2.1.1 HR.out k
                    have := HX.out.2.2.2.2.2.1.2
                    omega
                  have hglt := lt_of (HH.out.2.2.to hf (by simp))
                  have hclt := lt_of (HH.out.2.1.to hf (by simp))
                  have hfall : v < y → 0 < v → x ≤ u := fun h1 h2 => by
                    have := lens_falls (ctL F j) M HX.out.2.2.2.2.2.1.1 HR.out i k (y : Int) (v : Int) (by rw [ctL_get F j i hij, HI.out.2.1]) (by rw [ctL_get F j k hkj, hv]) (by omega) (by omega)
                    rw [HI.out.1, hu] at this
                    exact this
                  have HJ := Lib.hid hf
                  clear hu hv hf
                  by_cases hvy : v < y
                  · by_cases hv0 : 0 < v
                    · have hxu : decide (u < x) = false := by have := hfall hvy hv0; simp; omega
                      have hv0i : 0 < (v : Int) := by omega
                      have hvyi : (v : Int) < (y : Int) := by omega
                      clear hfall
                      go_wp2_with fail
                      refine wp_region_quiet_tail 26 (by kernel_rfl) (by kernel_rfl) ?_
                      simp only [List.take_succ_cons, List.take_zero, List.drop_succ_cons, List.drop_zero]
                      repeat go_big_quiet_step (fail)
                      refine wpQuiet_nil ?_
                      go_wp2_with fail
                      go_roundw
                      case rel => exact ⟨k + 1, by go_num, by omega, HJ.out.drew⟩
                      case measure => simp [intOf]; omega
                    · have hv0d : decide (0 < (v : Int)) = false := by simp; omega
                      have hv0i : (v : Int) ≤ 0 := by omega
                      have hvyi : (v : Int) < (y : Int) := by omega
                      clear hfall
                      go_wp2_with fail
                      refine wp_region_quiet_tail 26 (by kernel_rfl) (by kernel_rfl) ?_
                      simp only [List.take_succ_cons, List.take_zero, List.drop_succ_cons, List.drop_zero]
                      repeat go_big_quiet_step (fail)
                      refine wpQuiet_nil ?_
                      go_wp2_with fail
                      go_roundw
                      case rel => exact ⟨k + 1, by go_num, by omega, HJ.out.drew⟩
                      case measure => simp [intOf]; omega
                  · have hvyd : decide (v < y) = false := by simp; omega
                    clear hfall
                    go_wp2_with fail
                    refine wp_region_quiet_tail 26 (by kernel_rfl) (by kernel_rfl) ?_
                    simp only [List.take_succ_cons, List.take_zero, List.drop_succ_cons, List.drop_zero]
                    repeat go_big_quiet_step (fail)
                    refine wpQuiet_nil ?_
                    go_wp2_with fail
                    go_roundw
                    case rel => exact ⟨k + 1, by go_num, by omega, HJ.out.drew⟩
                    case measure => simp [intOf]; omega
                · have hkd : decide (k < j) = false := by simp; omega
                  have HJ := Lib.hid hf
                  clear hf
                  go_wp2_with fail
                  go_roundw
                  case rel => exact ⟨i + 1, by go_num, by omega, HJ.out⟩
                  case measure => simp [intOf]; omega
          · have hie : i = j := by omega
            subst hie
            have hid : decide (i < i) = false := by simp
            obtain ⟨hM1, hM15⟩ := HX.out.2.2.2.2.2.1
            have hKn := lens_kind (ctL F i) M (by rw [ctL_len]; omega) hM1 hM15 HR.out
            rw [← posN_sort, HF.out.2.2.1] at hKn
            have hSl := nrow_list (HH.out.2.2.to hf (by simp)) (l := lensL (ctL F i) M) (by unfold lensL; rw [ctL_len])
            have hKl : (lensL (ctL F i) M).length = i := by unfold lensL; rw [List.length_map, List.length_range, ctL_len]
            have HK := kind_any (some ⟨gl, 0, none⟩) i (lensL (ctL F i) M) wr hSl (by omega) (fun z hz => by
              obtain ⟨s, _, rfl⟩ := List.mem_map.1 hz
              have := lens_fits (ctL F i) M hM1 HR.out s
              omega)
            rw [hKl] at HK
            obtain ⟨kd, hkd⟩ : ∃ kd, kindN (lensL (ctL F i) M) = kd := ⟨_, rfl⟩
            rw [hkd] at HK hKn
            have HK := Lib.hid HK
            have hkd : kd ≤ 2 := by rw [hKn]; split <;> (try split) <;> omega
            have hkdi : (kd : Int) ≤ 2 := by omega
            have hb : (((P : Int) == 0) = ((kd : Int) == 0)) ∧ (((P : Int) == 1) = ((kd : Int) == 1)) ∧ (decide (1 < (P : Int)) = ((kd : Int) == 2)) := by
              rw [hKn]
              rcases (show P = 0 ∨ P = 1 ∨ 2 ≤ P by omega) with h | h | h
              · subst h; decide
              · subst h; decide
              · rw [if_neg (by omega), if_neg (by omega)]
                refine ⟨?_, ?_, ?_⟩
                · rw [Bool.eq_iff_iff]; simp; omega
                · rw [Bool.eq_iff_iff]; simp; omega
                · rw [Bool.eq_iff_iff]; simp; omega
            obtain ⟨b0, e0, e0'⟩ : ∃ b0, ((P : Int) == 0) = b0 ∧ ((kd : Int) == 0) = b0 := ⟨_, hb.1, rfl⟩
            obtain ⟨b1, e1, e1'⟩ : ∃ b1, ((P : Int) == 1) = b1 ∧ ((kd : Int) == 1) = b1 := ⟨_, hb.2.1, rfl⟩
            obtain ⟨b2, e2, e2'⟩ : ∃ b2, decide (1 < (P : Int)) = b2 ∧ ((kd : Int) == 2) = b2 := ⟨_, hb.2.2, rfl⟩
            have HJ := Lib.hid hf
            clear hf hSl hKl hKn hkd hb hM1 hM15 hi hij
            go_wp2_with fail
            refine HK.out.mono ?_
            rintro e w5 ⟨rfl, f5⟩
            have H5 := Lib.hid (HJ.out.trans f5)
            clear f5
            go_wp2_with fail
            refine (HA.out _).mono ?_
            rintro e w6 ⟨rfl, f6⟩
            have H6 := Lib.hid ((HH.out.1.trans H5.out).trans f6)
            clear f6
            go_wp2_with fail
            go_ret
            exact ⟨rfl, H6.out.below⟩
end Go.Proofs.Ytmajacfcfdljeaa
