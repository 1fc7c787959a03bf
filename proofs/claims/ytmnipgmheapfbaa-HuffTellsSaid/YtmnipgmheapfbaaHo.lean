/- A table is made: huff.New, the case that there is one. -/
import Derived.Test.YtmnipgmheapfbaaHm
import Derived.Deep.RegionHeld3
import Derived.IntWalk
namespace Go.Proofs.Ytmnipgmheapfbaa
open Go.RowKit
open Go.Maps (Keyed)
set_option linter.unusedVariables false
set_option linter.unusedSimpArgs false

/-- The longest of each row, behind j symbols, as the map has it. -/
def lmF (l : List Nat) (F j k : Nat) : Option Value := if lng l F j k = 0 then none else some (.int .i64 (lng l F j k : Int))
open Classical in
/-- A row's table, as the map has it: of those rows that are done. -/
noncomputable def tmF (B N : Nat → Nat) (d : Nat → Prop) (k : Nat) : Option Value := if d k then some (.slice (some ⟨B k, 0, none⟩) (2 ^ N k) (2 ^ N k)) else none
open Classical in
theorem tmF_put (B N : Nat → Nat) (d : Nat → Prop) (k b : Nat) (hk : ¬ d k) : (fun j => if j = k then some (Value.slice (some ⟨b, 0, none⟩) (2 ^ N k) (2 ^ N k)) else tmF B N d j) = tmF (fun j => if j = k then b else B j) N (fun j => d j ∨ j = k) := by
  funext j
  unfold tmF
  by_cases h : j = k
  · subst h
    simp
  · by_cases hd : d j
    · simp [h, hd]
    · simp [h, hd]
theorem tmF_none (B N : Nat → Nat) : tmF B N (fun _ => False) = fun _ => none := by
  funext k; unfold tmF; rw [if_neg (fun h => h)]

/-- A table in memory, all its blocks below hi. -/
def Tb (w : World) (hi tb : Nat) (l : List Nat) (F : Nat) : Prop :=
  ∃ (bc bm n : Nat) (B : Nat → Nat), w.heap[tb]? = some (.cells #[.int .i64 (F : Int), .slice (some ⟨bc, 0, none⟩) (2 ^ F) (2 ^ F), .map (some bm)] 71 (0, 0)) ∧ Crow w bc (2 ^ F) (cellF l F l.length) ∧
    Mp Try.prog 74 w bm n (kf F (fun k => if lng l F l.length k = 0 then none else some (.slice (some ⟨B k, 0, none⟩) (2 ^ lng l F l.length k) (2 ^ lng l F l.length k)))) ∧
    (∀ k, lng l F l.length k ≠ 0 → Crow w (B k) (2 ^ lng l F l.length k) (cellM l F k l.length) ∧ B k < hi) ∧ tb < hi ∧ bc < hi ∧ bm < hi ∧ n ≤ 400
theorem Tb.to {w w' : World} {hi tb F : Nat} {l L : List Nat} (h : Tb w hi tb l F) (f : Fr L w w') (hL : ∀ i ∈ L, hi ≤ i) : Tb w' hi tb l F := by
  obtain ⟨bc, bm, n, B, h1, h2, h3, h4, h5, h6, h7, h8⟩ := h
  have hno : ∀ b, b < hi → b ∉ L := fun b hb hm => by have := hL b hm; omega
  exact ⟨bc, bm, n, B, f.blk h1 (hno _ h5), h2.to f (hno _ h6), h3.to f (hno _ h7), fun k hk => ⟨(h4 k hk).1.to f (hno _ (h4 k hk).2), (h4 k hk).2⟩, h5, h6, h7, h8⟩

/-- What stays while a table is made. -/
structure NSt (w0 wr : World) (N g p F : Nat) (l : List Nat) (C : Nat → Nat × Nat) : Prop where
  tab : wr.heap[N + 1 + 1]? = some (.cells #[.int .i64 (F : Int), .slice (some ⟨N, 0, none⟩) p p, .map (some (N + 1))] 71 (0, 0))
  cod : Prow Cd 60 wr g l.length (codeW l)
  row : Crow wr N p C
  bel : Below w0.heap.size w0 wr
  hi : N + 1 + 1 + 1 < wr.heap.size
  lo : w0.heap.size ≤ N
  gN : g < N
theorem NSt.to {w0 wr wr' : World} {N g p F : Nat} {l : List Nat} {C : Nat → Nat × Nat} {L : List Nat} (h : NSt w0 wr N g p F l C) (f : Fr L wr wr') (hL : ∀ i ∈ L, N + 1 + 1 < i) : NSt w0 wr' N g p F l C := by
  have hno : ∀ b, b ≤ N + 1 + 1 → b ∉ L := fun b hb hm => by have := hL b hm; omega
  have h1 := h.gN
  have h2 := h.lo
  exact ⟨f.blk h.tab (hno _ (Nat.le_refl _)), h.cod.to f (hno _ (by omega)), h.row.to f (hno _ (by omega)), f.out h.bel (fun i hi => by have := hL i hi; omega), Nat.lt_of_lt_of_le h.hi f.size, h.lo, h.gN⟩
theorem NSt.map {w0 wr wr' : World} {N g p F : Nat} {l : List Nat} {C : Nat → Nat × Nat} (h : NSt w0 wr N g p F l C) (f : Fr [N + 1] wr wr') : NSt w0 wr' N g p F l C := by
  have h1 := h.gN
  have h2 := h.lo
  exact ⟨f.blk h.tab (by simp), h.cod.to f (by simp; omega), h.row.to f (by simp), f.out h.bel (fun i hi => by simp at hi; omega), Nat.lt_of_lt_of_le h.hi f.size, h.lo, h.gN⟩
theorem NSt.cells {w0 wr wr' : World} {N g p F : Nat} {l : List Nat} {C D : Nat → Nat × Nat} (h : NSt w0 wr N g p F l C) (f : Fr [N] wr wr') (hD : Crow wr' N p D) : NSt w0 wr' N g p F l D := by
  have h1 := h.gN
  have h2 := h.lo
  exact ⟨f.blk h.tab (by simp; omega), h.cod.to f (by simp; omega), hD, f.out h.bel (fun i hi => by simp at hi; omega), Nat.lt_of_lt_of_le h.hi f.size, h.lo, h.gN⟩
theorem inRow_W {l : List Nat} {F k j x y : Nat} (hc : codeW l j = (x, y)) (hF : F < y) : inRow l F k j = decide (x % 2 ^ F = k) := by
  rw [codeW_eq] at hc
  by_cases h0 : l.getD j 0 = 0
  · rw [if_pos h0] at hc; cases hc; omega
  · rw [if_neg h0] at hc
    cases hc
    unfold inRow
    by_cases h : wb l j % 2 ^ F = k
    · rw [decide_eq_true ⟨hF, h⟩, decide_eq_true h]
    · rw [decide_eq_false (fun e => h e.2), decide_eq_false h]
theorem inRow_no {l : List Nat} {F k j x y : Nat} (hc : codeW l j = (x, y)) (hF : y ≤ F) : inRow l F k j = false := by
  have := codeW_size l j
  rw [hc] at this
  unfold inRow
  rw [decide_eq_false]
  rintro ⟨h, _⟩
  simp only at this
  omega
theorem cellF_W {l : List Nat} {F j x y : Nat} (hc : codeW l j = (x, y)) (i : Nat) : cellF l F (j + 1) i = if 0 < y ∧ y ≤ F ∧ i % 2 ^ y = x then (j, y) else cellF l F j i := by
  rw [codeW_eq] at hc
  by_cases h0 : l.getD j 0 = 0
  · rw [if_pos h0] at hc
    cases hc
    simp only [cellF]
    rw [h0]
    simp
  · rw [if_neg h0] at hc
    cases hc
    rfl
theorem cellM_W {l : List Nat} {F k j x y : Nat} (hc : codeW l j = (x, y)) (i : Nat) : cellM l F k (j + 1) i = if F < y ∧ x % 2 ^ F = k ∧ i % 2 ^ (y - F) = x / 2 ^ F then (j, y) else cellM l F k j i := by
  have hs := codeW_size l j
  rw [hc] at hs
  simp only at hs
  simp only [cellM]
  rw [← hs]
  by_cases hF : F < y
  · rw [inRow_W hc hF]
    rw [codeW_eq] at hc
    rw [← hs, if_neg (by omega)] at hc
    cases hc
    simp [hF]
  · rw [inRow_no hc (by omega), if_neg (by simp), if_neg (fun h => hF h.1)]
theorem lmF_no {l : List Nat} {F j x y : Nat} (hc : codeW l j = (x, y)) (hF : y ≤ F) : lmF l F (j + 1) = lmF l F j := by
  funext k
  have : lng l F (j + 1) k = lng l F j k := by
    simp only [lng]
    rw [inRow_no hc hF]
    rfl
  unfold lmF
  rw [this]
theorem lmF_put {l : List Nat} {F j x y : Nat} (hc : codeW l j = (x, y)) (hF : F < y) : (fun k => if k = x % 2 ^ F then some (Value.int .i64 ((max (lng l F j (x % 2 ^ F)) (y - F) : Nat) : Int)) else lmF l F j k) = lmF l F (j + 1) := by
  have hs := codeW_size l j
  rw [hc] at hs
  simp only at hs
  funext k
  by_cases hk : k = x % 2 ^ F
  · subst hk
    rw [if_pos rfl]
    unfold lmF
    have : lng l F (j + 1) (x % 2 ^ F) = max (lng l F j (x % 2 ^ F)) (y - F) := by
      simp only [lng]
      rw [inRow_W hc hF, decide_eq_true rfl, if_pos rfl, hs]
    rw [this, if_neg (by omega)]
  · rw [if_neg hk]
    unfold lmF
    have : lng l F (j + 1) k = lng l F j k := by
      simp only [lng]
      rw [inRow_W hc hF, decide_eq_false (fun e => hk e.symm)]
      simp
    rw [this]
theorem lmF_get (l : List Nat) (F j k : Nat) : (lmF l F j k).getD (.int .i64 0) = .int .i64 (lng l F j k : Int) := by
  unfold lmF
  by_cases h : lng l F j k = 0
  · rw [if_pos h, h]; rfl
  · rw [if_neg h]; rfl

set_option maxRecDepth 2000000 in
set_option maxHeartbeats 3200000 in
theorem hnew_any (a : Option Addr) (c : Nat) (l : List Nat) (F : Nat) (w : World) (hs : SlOf U8 1 w a l) (hl : l.length ≤ 9223372036854775807) (h8 : ∀ x ∈ l, x < 256) (hf0 : 1 ≤ F) (hf1 : F ≤ 15) (hk5 : kindN l ≠ 5) (hk4 : kindN l ≠ 4) (hk3 : kindN l ≠ 3) :
    Calls Try.prog 9 #[.slice a l.length c, .int .i64 (F : Int)] w fun e w' => ∃ tb, e = .returned (.tuple #[.pointer (some ⟨tb, 0, none⟩), .int .i64 0]) ∧ w.heap.size ≤ tb ∧ Tb w' w'.heap.size tb l F ∧ Fr [] w w' := by
  have hbad := kind_le hk5
  have hw := kind_wt hk5 hk4
  obtain ⟨hlen, hle⟩ := kind_ok hbad
  have HFI := Lib.hid (Fine.mk hle hw)
  have HT := Lib.hid (kind_any a c l w hs hl h8)
  have HWR := Lib.hid (fun W (hB : Fr [] w W) => hwrites_any a c l W (hs.below hB.below) hl h8 hk5 hk4)
  have i1 : (l.length : Int) ≤ 320 := by omega
  have i2 : 1 ≤ (F : Int) := by omega
  have i3 : (F : Int) ≤ 15 := by omega
  obtain ⟨q, hq⟩ : ∃ q, kindN l = q := ⟨_, rfl⟩
  rw [hq] at hk5 hk4 hk3 HT
  have g5 : ¬ (q : Int) = 5 := by omega
  have g4 : ¬ (q : Int) = 4 := by omega
  have g3 : ¬ (q : Int) = 3 := by omega
  replace g5 : ((q : Int) == 5) = false := by simpa using g5
  replace g4 : ((q : Int) == 4) = false := by simpa using g4
  replace g3 : ((q : Int) == 3) = false := by simpa using g3
  have hp1 : 2 ^ F ≤ 2 ^ 15 := Nat.pow_le_pow_right (by decide) hf1
  obtain ⟨p, hp⟩ : ∃ p, 2 ^ F = p := ⟨_, rfl⟩
  have e2 : (2 : Int) ^ F = (p : Int) := by rw [← hp]; simp
  have HP := Lib.hid hp
  rw [hp] at hp1
  have i4 : (p : Int) ≤ 32768 := by omega
  clear hs hl h8 hbad hw hlen hle hk5 hk4 hk3 hq hp hp1
  have hmc := fun W => run_make_cells p (by omega) W
  have hmm := @run_makeMap Try.prog
  have HMC := Lib.hid hmc
  clear hmc
  go_enter Try.func9, Try.ntmps9
  go_wp2_with fail
  refine HT.out.mono ?_
  rintro e w1 ⟨rfl, f1⟩
  have HF := Lib.hid f1
  clear f1 HT
  go_wp2_with fail
  refine (HWR.out w1 HF.out).mono ?_
  rintro e w2 ⟨g, rfl, hg, hPW, f2⟩
  have HF2 := Lib.hid (And.intro hg (And.intro hPW (HF.out.trans f2)))
  clear HWR hg hPW f2 HF
  have hmc := HMC.out w2
  go_wp2_with fail
  obtain ⟨N, hN⟩ : ∃ N, w2.heap.size = N := ⟨_, rfl⟩
  have hst : NSt w (((w2.alloc (.cells ((List.range p).flatMap fun j => Cl ((fun _ => (0, 0)) j)).toArray 82)).alloc (.map #[] 0)).alloc (.cells #[.int .i64 (F : Int), .slice (some ⟨w2.heap.size, 0, none⟩) p p, .map (some (w2.heap.size + 1))] 71) |>.alloc (.map #[] 0)) N g p F l (fun _ => (0, 0)) := by
    subst hN
    refine ⟨?_, ?_, ?_, ?_, by simp, HF2.out.2.2.size, lt_of HF2.out.2.1⟩
    · refine (Fr.alloc [] _ _).blk ?_ (by simp)
      have := new_of ((w2.alloc (.cells ((List.range p).flatMap fun j => Cl ((fun _ => (0, 0)) j)).toArray 82)).alloc (.map #[] 0)) (.cells #[.int .i64 (F : Int), .slice (some ⟨w2.heap.size, 0, none⟩) p p, .map (some (w2.heap.size + 1))] 71)
      simpa using this
    · exact HF2.out.2.1.to ((((Fr.alloc [] _ _).trans (Fr.alloc [] _ _)).trans (Fr.alloc [] _ _)).trans (Fr.alloc [] _ _)) (by simp)
    · exact Prow.to (new_of w2 _) (((Fr.alloc [] _ _).trans (Fr.alloc [] _ _)).trans (Fr.alloc [] _ _)) (by simp)
    · exact ((((((HF2.out.2.2).trans (Fr.alloc [] _ _)).trans (Fr.alloc [] _ _)).trans (Fr.alloc [] _ _)).trans (Fr.alloc [] _ _))).below
  have hm1 : Mp Try.prog 74 (((w2.alloc (.cells ((List.range p).flatMap fun j => Cl ((fun _ => (0, 0)) j)).toArray 82)).alloc (.map #[] 0)).alloc (.cells #[.int .i64 (F : Int), .slice (some ⟨w2.heap.size, 0, none⟩) p p, .map (some (w2.heap.size + 1))] 71) |>.alloc (.map #[] 0)) (N + 1) 0 (fun _ => none) := by
    subst hN
    have := (Mp.made Try.prog 74 (w2.alloc (.cells ((List.range p).flatMap fun j => Cl ((fun _ => (0, 0)) j)).toArray 82))).to (((Fr.alloc [] _ (.cells #[.int .i64 (F : Int), .slice (some ⟨w2.heap.size, 0, none⟩) p p, .map (some (w2.heap.size + 1))] 71)).trans (Fr.alloc [] _ (.map #[] 0)))) (by simp)
    simpa using this
  have hm2 : Mp Try.prog 74 (((w2.alloc (.cells ((List.range p).flatMap fun j => Cl ((fun _ => (0, 0)) j)).toArray 82)).alloc (.map #[] 0)).alloc (.cells #[.int .i64 (F : Int), .slice (some ⟨w2.heap.size, 0, none⟩) p p, .map (some (w2.heap.size + 1))] 71) |>.alloc (.map #[] 0)) (N + 1 + 1 + 1) 0 (fun _ => none) := by
    subst hN
    have := Mp.made Try.prog 74 (((w2.alloc (.cells ((List.range p).flatMap fun j => Cl ((fun _ => (0, 0)) j)).toArray 82)).alloc (.map #[] 0)).alloc (.cells #[.int .i64 (F : Int), .slice (some ⟨w2.heap.size, 0, none⟩) p p, .map (some (w2.heap.size + 1))] 71))
    simpa using this
  have HS0 := Lib.hid (And.intro hst (And.intro hm1 hm2))
  clear hst hm1 hm2 hmc
  rw [hN] at HS0 ⊢
  clear hN
  change Code.wp _ _ _ _ (((w2.alloc (.cells ((List.range p).flatMap fun j => Cl ((fun _ => (0, 0)) j)).toArray 82)).alloc (.map #[] 0)).alloc (.cells #[.int .i64 (F : Int), .slice (some ⟨N, 0, none⟩) p p, .map (some (N + 1))] 71) |>.alloc (.map #[] 0))
  generalize (((w2.alloc (.cells ((List.range p).flatMap fun j => Cl ((fun _ => (0, 0)) j)).toArray 82)).alloc (.map #[] 0)).alloc (.cells #[.int .i64 (F : Int), .slice (some ⟨N, 0, none⟩) p p, .map (some (N + 1))] 71) |>.alloc (.map #[] 0)) = W3 at *
  go_loopw [54] (fun i wr => ∃ j : Nat, j ≤ l.length ∧ i = .int .i64 j ∧ NSt w wr N g p F l (fun _ => (0, 0)) ∧ Mp Try.prog 74 wr (N + 1) 0 (fun _ => none) ∧ Mp Try.prog 74 wr (N + 1 + 1 + 1) j (kf F (lmF l F j))) (fun i _ => l.length - (intOf i).toNat)
  case atStart =>
    refine ⟨0, Nat.zero_le _, rfl, HS0.out.1, HS0.out.2.1, ?_⟩
    have e : lmF l F 0 = fun _ => none := by funext k; unfold lmF; rfl
    rw [e, kf_none]
    exact HS0.out.2.2
  case round =>
    obtain ⟨j, hj, rfl, hSt, hMb, hMl⟩ := hrel
    by_cases hjl : j < l.length
    · have e0 := hSt.cod.cell cd_len j 0 hjl (by omega)
      have e1 := hSt.cod.cell cd_len j 1 hjl (by omega)
      simp only [Cd, List.getElem?_cons_zero, List.getElem?_cons_succ, Nat.add_zero] at e0 e1
      obtain ⟨x, hx⟩ : ∃ x, (codeW l j).1 = x := ⟨_, rfl⟩
      obtain ⟨y, hy⟩ : ∃ y, (codeW l j).2 = y := ⟨_, rfl⟩
      have hc : codeW l j = (x, y) := by rw [← hx, ← hy]
      rw [hx] at e0
      rw [hy] at e1
      have hx1 : (x : Int) ≤ 32767 := by have := codeW_le HFI.out.le j; omega
      have hy1 : (y : Int) ≤ 15 := by have := getD_le HFI.out.le j; rw [← hy, codeW_size]; omega
      have hji : (j : Int) < (l.length : Int) := by omega
      have hgl := lt_of hSt.cod
      by_cases hyF : y ≤ F
      · have HR := Lib.hid (And.intro hSt (And.intro hMb (And.intro hMl (And.intro hc hyF))))
        have hyi : (y : Int) ≤ (F : Int) := by omega
        clear hSt hMb hMl hc hx hy hyF
        go_wp2_with fail
        go_roundw
        case rel =>
          refine ⟨j + 1, by omega, by go_num, HR.out.1.to (Fr.alloc [] _ _) (by simp), HR.out.2.1.to (Fr.alloc [] _ _) (by simp), ?_⟩
          rw [lmF_no HR.out.2.2.2.1 HR.out.2.2.2.2]
          exact (HR.out.2.2.1.to (Fr.alloc [] _ _) (by simp)).mono (by omega)
        case measure => simp [intOf]; omega
      · have HR := Lib.hid (And.intro hSt (And.intro hMb (And.intro hMl (And.intro hc hyF))))
        have hyi : (F : Int) < (y : Int) := by omega
        have hrow := fun W (hW : Fr [] wr W) => row_any (N + 1 + 1) F x _ _ W (hW.blk hSt.tab (by simp)) (by omega) (by omega)
        have HROW := Lib.hid hrow
        clear hSt hMb hMl hc hx hy hyF hrow
        go_wp2_with fail
        refine (HROW.out _ (Fr.alloc [] _ _)).mono ?_
        rintro e w4 ⟨rfl, f4⟩
        obtain ⟨k, hk⟩ : ∃ k, x % 2 ^ F = k := ⟨_, rfl⟩
        rw [hk]
        have hb4 := f4.blk (new_of wr (.cells #[.int .u32 (x : Int), .int .u8 (y : Int)] 60)) (by simp)
        have HF4 := Lib.hid (And.intro hb4 (And.intro ((Fr.alloc [] _ _).trans f4) hk))
        clear HROW hb4 f4 hk
        go_wp2_with fail
        have hbk := new_of w4 (.cells #[.int .u64 (k : Int), .int .i64 (F : Int)] 74)
        have hf5 := HF4.out.2.1.trans (Fr.alloc [] w4 (.cells #[.int .u64 (k : Int), .int .i64 (F : Int)] 74))
        have hb5 := (Fr.alloc [] w4 (.cells #[.int .u64 (k : Int), .int .i64 (F : Int)] 74)).blk HF4.out.1 (by simp)
        generalize w4.alloc (.cells #[.int .u64 (k : Int), .int .i64 (F : Int)] 74) = W5 at *
        have k0 := cell_of hbk 0
        have k1 := cell_of hbk 1
        have c0 := cell_of hb5 0
        have c1 := cell_of hb5 1
        simp only [List.size_toArray, List.getElem?_toArray, List.getElem?_cons_zero, List.getElem?_cons_succ] at k0 k1 c0 c1
        have hk32 : k ≤ 32767 := by rw [← HF4.out.2.2]; exact Nat.le_trans (Nat.mod_le _ _) (by omega)
        have hky := row_key F k (by omega) (by omega)
        have hMl := (HR.out.2.2.1.to hf5 (by simp)).to (Fr.drew (Fr.refl [] W5)) (by simp)
        have hlk := hMl.lookup (t := 72) (e := 3) (z := .int .i64 0) false rowK Try.underlying72 (by kernel_rfl) hky
        rw [kf_rk, lmF_get] at hlk
        obtain ⟨W6, hup, hM6, hf6⟩ := hMl.update (t := 72) (e := 3) (val := .int .i64 ((max (lng l F j k) (y - F) : Nat) : Int)) rowK Try.underlying72 (by unfold maxLen; omega) hky
        rw [kf_put] at hM6
        unfold rk at hlk hup
        simp only [Bool.false_eq_true, if_false] at hlk
        obtain ⟨m, hm⟩ : ∃ m, lng l F j k = m := ⟨_, rfl⟩
        rw [hm] at hlk hup
        have hm15 : (m : Int) ≤ 15 := by have := lng_le l F j k HFI.out.le; omega
        obtain ⟨d, hd⟩ : ∃ d, max m (y - F) = d := ⟨_, rfl⟩
        rw [hd] at hup
        have hmx : max (m : Int) ((y : Int) - (F : Int)) = (d : Int) := by omega
        have HU := Lib.hid (And.intro hup (And.intro hM6 (And.intro hf6 (And.intro hf5 (And.intro hm (And.intro hd HF4.out.2.2))))))
        clear hbk hb5 hf5 hk32 hky hMl hup hM6 hf6 hm hd HF4
        refine wp_region_quiet_tail 11 (by kernel_rfl) (by kernel_rfl) ?_
        simp only [List.take_succ_cons, List.take_zero, List.drop_succ_cons, List.drop_zero]
        repeat go_big_quiet_step (fail)
        refine wpQuiet_nil ?_
        have hup := HU.out.1
        go_wp2_with fail
        go_roundw
        case rel =>
          obtain ⟨_, hM6, hf6, hf5, hm, hd, hk⟩ := HU.out
          have hfa : Fr [N + 1 + 1 + 1] wr W6 := (hf5.nil.trans (Fr.drew (Fr.refl _ _))).trans hf6
          refine ⟨j + 1, by omega, by go_num, HR.out.1.to hfa (by simp), HR.out.2.1.to hfa (by simp), ?_⟩
          rw [← lmF_put HR.out.2.2.2.1 (by have := HR.out.2.2.2.2; omega), hk, hm, hd]
          rw [hm, hd] at hM6
          exact hM6
        case measure => simp [intOf]; omega
    · have hje : j = l.length := by omega
      subst hje
      obtain ⟨W7, cnt, hrg, hRn, hf7, hcnt⟩ := hMl.range (t := 72) (e := 3) Try.underlying72
      have HWH0 := Lib.hid hSt.hi
      have HR := Lib.hid (And.intro (hSt.to hf7 (by simp)) (And.intro (hMb.to hf7 (by simp)) (And.intro hRn hcnt)))
      clear hSt hMb hMl hRn hf7 hcnt
      go_wp2_with fail
      obtain ⟨wh, hwh⟩ : ∃ wh, wh = wr := ⟨_, rfl⟩
      have HWH := HWH0
      rw [← hwh] at HWH
      rw [← hwh] at HR ⊢
      clear hwh
      go_loopg [] cnt (fun n w8 => ∃ (d : Nat → Prop) (B : Nat → Nat) (m : Nat), m + n ≤ 320 ∧ NSt w w8 N g p F l (fun _ => (0, 0)) ∧ Rn Try.prog 74 w8 (N + 1 + 1 + 1) wh.heap.size l.length (kf F (lmF l F l.length)) (fun x => ∃ k, x = rk F k ∧ d k) n ∧ Mp Try.prog 74 w8 (N + 1) m (kf F (tmF B (lng l F l.length) d)) ∧
        (∀ k, d k → lng l F l.length k ≠ 0 ∧ Crow w8 (B k) (2 ^ lng l F l.length k) (fun _ => (0, 0)) ∧ wh.heap.size < B k) ∧ (∀ k j, d k → d j → B k = B j → k = j))
      case atStart =>
        refine ⟨fun _ => False, fun _ => 0, 0, by have := HR.out.2.2.2; omega, HR.out.1, ?_, ?_, fun k h => h.elim, fun k j h => h.elim⟩
        · have e : (fun x : Value => ∃ k, x = rk F k ∧ False) = fun _ => False := by funext x; simp
          rw [e]
          exact HR.out.2.2.1
        · rw [tmF_none, kf_none]
          exact HR.out.2.1
      case round =>
        obtain ⟨d, B, m, hmn, hSt, hRn, hMp, hB1, hB2⟩ := hrel
        have hr0 := hRn.lt
        rcases hRn.next with ⟨hall, hnx⟩ | ⟨key, v, w9, n', hGk, hdk, hnx, hR9, hn', hf9, hen⟩
        · have hd : ∀ k, d k ↔ lng l F l.length k ≠ 0 := fun k => ⟨fun h => (hB1 k h).1, fun h => by
            obtain ⟨j, h1, h2⟩ := hall (rk F k) (by rw [kf_rk]; unfold lmF; rw [if_neg h]; simp)
            rw [rk_inj h1]; exact h2⟩
          have HK := Lib.hid (And.intro hSt (And.intro hMp (And.intro hB1 (And.intro hB2 (And.intro hd hr0)))))
          clear hSt hMp hRn hB1 hB2 hd hall hr0
          go_wp2_with fail
          go_loopw [97] (fun i wr => ∃ j : Nat, j ≤ l.length ∧ i = .int .i64 j ∧ NSt w wr N g p F l (cellF l F j) ∧ Mp Try.prog 74 wr (N + 1) m (kf F (tmF B (lng l F l.length) d)) ∧ (∀ k, lng l F l.length k ≠ 0 → Crow wr (B k) (2 ^ lng l F l.length k) (cellM l F k j))) (fun i _ => l.length - (intOf i).toNat)
          case atStart =>
            refine ⟨0, Nat.zero_le _, rfl, HK.out.1, HK.out.2.1, fun k hk => (HK.out.2.2.1 k ((HK.out.2.2.2.2.1 k).2 hk)).2.1⟩
          case round =>
            obtain ⟨j, hj, rfl, hSt, hMp, hCm⟩ := hrel
            by_cases hjl : j < l.length
            · have e0 := hSt.cod.cell cd_len j 0 hjl (by omega)
              have e1 := hSt.cod.cell cd_len j 1 hjl (by omega)
              simp only [Cd, List.getElem?_cons_zero, List.getElem?_cons_succ, Nat.add_zero] at e0 e1
              obtain ⟨x, hx⟩ : ∃ x, (codeW l j).1 = x := ⟨_, rfl⟩
              obtain ⟨y, hy⟩ : ∃ y, (codeW l j).2 = y := ⟨_, rfl⟩
              have hc : codeW l j = (x, y) := by rw [← hx, ← hy]
              have hxy := codeW_lt l j
              rw [hc] at hxy
              simp only at hxy
              rw [hx] at e0
              rw [hy] at e1
              have hx1 : (x : Int) ≤ 32767 := by have := codeW_le HFI.out.le j; omega
              have hy1 : (y : Int) ≤ 15 := by have := getD_le HFI.out.le j; rw [← hy, codeW_size]; omega
              have hji : (j : Int) < (l.length : Int) := by omega
              have hgl := lt_of hSt.cod
              have hrow := fun W (hW : Fr [] wr W) => row_any (N + 1 + 1) F x _ _ W (hW.blk hSt.tab (by simp)) (by omega) (by omega)
              have HROW := Lib.hid hrow
              have HR := Lib.hid (And.intro hSt (And.intro hMp (And.intro hCm (And.intro hc hxy))))
              clear hSt hMp hCm hc hx hy hxy hrow
              obtain ⟨k, hk⟩ : ∃ k, x % 2 ^ F = k := ⟨_, rfl⟩
              rw [hk] at HROW
              by_cases hy0 : y = 0
              · subst hy0
                clear hk
                go_wp2_with fail
                refine (HROW.out _ (Fr.alloc [] _ _)).mono ?_
                rintro e w4 ⟨rfl, f4⟩
                have hb4 := f4.blk (new_of wr (.cells #[.int .u32 (x : Int), .int .u8 ((0 : Nat) : Int)] 60)) (by simp)
                have HF4 := Lib.hid (And.intro hb4 ((Fr.alloc [] _ _).trans f4))
                have c1 := cell_of hb4 1
                have hlt4 := lt_of hb4
                clear HROW hb4 f4
                go_wp2_with fail
                go_roundw
                case rel =>
                  have hfa := HF4.out.2.trans (Fr.alloc [] w4 (.cells #[.int .u64 (k : Int), .int .i64 (F : Int)] 74))
                  refine ⟨j + 1, by omega, by go_num, ?_, HR.out.2.1.to hfa (by simp), fun k hk => ((HR.out.2.2.1 k hk).to hfa (by simp)).congr fun i hi => by rw [cellM_W HR.out.2.2.2.1, if_neg (by omega)]⟩
                  have := HR.out.1.to hfa (by simp)
                  rw [show cellF l F (j + 1) = cellF l F j from funext fun i => by rw [cellF_W HR.out.2.2.2.1, if_neg (by omega)]]
                  exact this
                case measure => simp [intOf]; omega
              · have hy2 : ¬ (y : Int) = 0 := by omega
                have hyy : ((y : Int) == 0) = false := by simpa using hy2
                by_cases hyF : y ≤ F
                · have hyi : (y : Int) ≤ (F : Int) := by omega
                  have HY := Lib.hid (And.intro hk hyF)
                  clear hk hyF hy2
                  go_wp2_with fail
                  refine (HROW.out _ (Fr.alloc [] _ _)).mono ?_
                  rintro e w4 ⟨rfl, f4⟩
                  have hb4 := f4.blk (new_of wr (.cells #[.int .u32 (x : Int), .int .u8 (y : Int)] 60)) (by simp)
                  have HF4 := Lib.hid (And.intro hb4 ((Fr.alloc [] _ _).trans f4))
                  have c1 := cell_of hb4 1
                  have hlt4 := lt_of hb4
                  clear HROW hb4 f4
                  go_wp2_with fail
                  have hfa := HF4.out.2.trans (Fr.alloc [] w4 (.cells #[.int .u64 (k : Int), .int .i64 (F : Int)] 74))
                  have hb5 := (Fr.alloc [] w4 (.cells #[.int .u64 (k : Int), .int .i64 (F : Int)] 74)).blk HF4.out.1 (by simp)
                  generalize w4.alloc (.cells #[.int .u64 (k : Int), .int .i64 (F : Int)] 74) = W5 at *
                  have k0 := cell_of hb5 0
                  have k1 := cell_of hb5 1
                  have t1 := cell_of (hfa.blk HR.out.1.tab (by simp)) 1
                  simp only [List.size_toArray, List.getElem?_toArray, List.getElem?_cons_zero, List.getElem?_cons_succ] at k0 k1 t1
                  have hfl := fill_any N p p (cellF l F j) x y 0 j W5.drew (HR.out.1.row.to (hfa.trans (Fr.drew (Fr.refl _ _))) (by simp)) (by omega) HR.out.2.2.2.2 (by omega) (by omega) (by omega)
                  have HFL := Lib.hid (And.intro hfl hfa)
                  clear hb5 hfl hfa
                  refine wp_region_quiet_tail 6 (by kernel_rfl) (by kernel_rfl) ?_
                  simp only [List.take_succ_cons, List.take_zero, List.drop_succ_cons, List.drop_zero]
                  repeat go_big_quiet_step (fail)
                  refine wpQuiet_nil ?_
                  go_wp2_with fail
                  refine HFL.out.1.mono ?_
                  rintro e w6 ⟨rfl, hC6, hf6⟩
                  have HF6 := Lib.hid (And.intro hC6 hf6)
                  clear hC6 hf6
                  go_wp2_with fail
                  go_roundw
                  case rel =>
                    have hfa := HFL.out.2
                    have hf6 := HF6.out.2
                    have hNw := HWH.out
                    refine ⟨j + 1, by omega, by go_num, ?_, (HR.out.2.1.to (hfa.trans (Fr.drew (Fr.refl _ _))) (by simp)).to hf6 (by simp), fun k' hk' => ?_⟩
                    · refine (HR.out.1.to (hfa.trans (Fr.drew (Fr.refl _ _))) (by simp)).cells hf6 (HF6.out.1.congr fun i hi => ?_)
                      rw [cellF_W HR.out.2.2.2.1, Nat.sub_zero, Nat.pow_zero, Nat.div_one]
                      by_cases h : i % 2 ^ y = x
                      · rw [if_pos ⟨by omega, HY.out.2, h⟩, if_pos h]
                      · rw [if_neg (fun e => h e.2.2), if_neg h]
                    · have hb := (HK.out.2.2.1 k' ((HK.out.2.2.2.2.1 k').2 hk')).2.2
                      exact (((HR.out.2.2.1 k' hk').to (hfa.trans (Fr.drew (Fr.refl _ _))) (by simp)).to hf6 (by simp; omega)).congr fun i hi => by rw [cellM_W HR.out.2.2.2.1, if_neg (by have := HY.out.2; omega)]
                  case measure => simp [intOf]; omega
                · have hyi : (F : Int) < (y : Int) := by omega
                  have hin : inRow l F k j = true := by rw [inRow_W HR.out.2.2.2.1 (by omega), decide_eq_true hk]
                  have hlk : lng l F l.length k ≠ 0 := by
                    have h1 := lng_ge l F l.length k j hjl hin
                    have h2 := codeW_size l j
                    rw [HR.out.2.2.2.1] at h2
                    simp only at h2
                    omega
                  have hkk : k ≤ 32768 := by rw [← hk]; exact Nat.le_trans (Nat.mod_le _ _) (by omega)
                  have hl15 := lng_le l F l.length k HFI.out.le
                  have hs15 : 2 ^ lng l F l.length k ≤ 2 ^ 15 := Nat.pow_le_pow_right (by decide) (by omega)
                  have hky := row_key F k (by omega) (by omega)
                  have hdk := (HK.out.2.2.2.2.1 k).2 hlk
                  have hCk := HR.out.2.2.1 k hlk
                  have htm : tmF B (lng l F l.length) d k = some (.slice (some ⟨B k, 0, none⟩) (2 ^ lng l F l.length k) (2 ^ lng l F l.length k)) := by unfold tmF; rw [if_pos hdk]
                  obtain ⟨s, hs⟩ : ∃ s, 2 ^ lng l F l.length k = s := ⟨_, rfl⟩
                  rw [hs] at hCk htm hs15
                  have HY := Lib.hid (And.intro hk (And.intro hlk (And.intro hCk (And.intro hs (And.intro hs15 (And.intro hdk (And.intro hky htm)))))))
                  have HjF : Hid (¬ y ≤ F) := Lib.hid hyF
                  clear hk hyF hy2 hin hlk hkk hl15 hs15 hky hdk hCk htm hs
                  go_wp2_with fail
                  refine (HROW.out _ (Fr.alloc [] _ _)).mono ?_
                  rintro e w4 ⟨rfl, f4⟩
                  have hb4 := f4.blk (new_of wr (.cells #[.int .u32 (x : Int), .int .u8 (y : Int)] 60)) (by simp)
                  have HF4 := Lib.hid (And.intro hb4 ((Fr.alloc [] _ _).trans f4))
                  have c1 := cell_of hb4 1
                  have hlt4 := lt_of hb4
                  clear HROW hb4 f4
                  go_wp2_with fail
                  have hfa := HF4.out.2.trans (Fr.alloc [] w4 (.cells #[.int .u64 (k : Int), .int .i64 (F : Int)] 74))
                  have hb5 := (Fr.alloc [] w4 (.cells #[.int .u64 (k : Int), .int .i64 (F : Int)] 74)).blk HF4.out.1 (by simp)
                  have hb6 := new_of w4 (.cells #[.int .u64 (k : Int), .int .i64 (F : Int)] 74)
                  generalize w4.alloc (.cells #[.int .u64 (k : Int), .int .i64 (F : Int)] 74) = W5 at *
                  have k0 := cell_of hb5 0
                  have k1 := cell_of hb5 1
                  have m0 := cell_of hb6 0
                  have m1 := cell_of hb6 1
                  have t2 := cell_of (hfa.blk HR.out.1.tab (by simp)) 2
                  simp only [List.size_toArray, List.getElem?_toArray, List.getElem?_cons_zero, List.getElem?_cons_succ] at k0 k1 t2 m0 m1
                  have hMp5 := HR.out.2.1.to (hfa.trans (Fr.drew (Fr.refl _ _))) (by simp)
                  have hlk := hMp5.lookup (t := 69) (e := 68) (z := .slice none 0 0) false rowK Try.underlying69 (by kernel_rfl) HY.out.2.2.2.2.2.2.1
                  rw [kf_rk, HY.out.2.2.2.2.2.2.2] at hlk
                  unfold rk at hlk
                  simp only [Bool.false_eq_true, if_false, Option.getD_some] at hlk
                  have hfl := fill_any (B k) s s (cellM l F k j) x y F j W5.drew (HY.out.2.2.1.to (hfa.trans (Fr.drew (Fr.refl _ _))) (by simp)) HY.out.2.2.2.2.1 HR.out.2.2.2.2 (by omega) (by omega) (by omega)
                  have HFL := Lib.hid (And.intro hfl hfa)
                  clear hb5 hb6 hfl hfa hMp5
                  refine wp_region_quiet_tail 9 (by kernel_rfl) (by kernel_rfl) ?_
                  simp only [List.take_succ_cons, List.take_zero, List.drop_succ_cons, List.drop_zero]
                  repeat go_big_quiet_step (fail)
                  refine wpQuiet_nil ?_
                  go_wp2_with fail
                  refine HFL.out.1.mono ?_
                  rintro e w6 ⟨rfl, hC6, hf6⟩
                  have HF6 := Lib.hid (And.intro hC6 hf6)
                  clear hC6 hf6
                  go_wp2_with fail
                  go_roundw
                  case rel =>
                    have hfa := HFL.out.2
                    have hf6 := HF6.out.2
                    have hNw := HWH.out
                    obtain ⟨hk, hlk, hCk, hs, hs15, hdk, hky, htm⟩ := HY.out
                    have hbk := (HK.out.2.2.1 k hdk).2.2
                    refine ⟨j + 1, by omega, by go_num, ?_, (HR.out.2.1.to (hfa.trans (Fr.drew (Fr.refl _ _))) (by simp)).to hf6 (by simp; omega), fun k' hk' => ?_⟩
                    · have := (HR.out.1.to (hfa.trans (Fr.drew (Fr.refl _ _))) (by simp)).to hf6 (by simp; omega)
                      rw [show cellF l F (j + 1) = cellF l F j from funext fun i => by rw [cellF_W HR.out.2.2.2.1, if_neg (by have := HjF.out; omega)]]
                      exact this
                    · by_cases hkk : k' = k
                      · subst hkk
                        rw [hs]
                        refine HF6.out.1.congr fun i hi => ?_
                        rw [cellM_W HR.out.2.2.2.1]
                        by_cases h : i % 2 ^ (y - F) = x / 2 ^ F
                        · rw [if_pos ⟨by have := HjF.out; omega, hk, h⟩, if_pos h]
                        · rw [if_neg (fun e => h e.2.2), if_neg h]
                      · have hb' := (HK.out.2.2.1 k' ((HK.out.2.2.2.2.1 k').2 hk')).2.2
                        have hne : B k' ≠ B k := fun e => hkk (HK.out.2.2.2.1 k' k ((HK.out.2.2.2.2.1 k').2 hk') hdk e)
                        exact (((HR.out.2.2.1 k' hk').to (hfa.trans (Fr.drew (Fr.refl _ _))) (by simp)).to hf6 (by simp; exact hne)).congr fun i hi => by rw [cellM_W HR.out.2.2.2.1, if_neg (by rw [hk]; exact fun e => hkk e.2.1.symm)]
                  case measure => simp [intOf]; omega
            · have hje : j = l.length := by omega
              subst hje
              have HR := Lib.hid (And.intro hSt (And.intro hMp hCm))
              clear hSt hMp hCm
              go_wp2_with fail
              go_ret2
              obtain ⟨hSt, hMp, hCm⟩ := HR.out
              have hNw := HWH.out
              refine ⟨_, rfl, by have := hSt.lo; omega, ⟨N, N + 1, m, B, ?_, ?_, ?_, fun k hk => ⟨hCm k hk, lt_of (hCm k hk)⟩, lt_of hSt.tab, lt_of hSt.row, hMp.lt, by omega⟩, Fr.of_below hSt.bel⟩
              · rw [HP.out]; exact hSt.tab
              · rw [HP.out]; exact hSt.row
              · have e : tmF B (lng l F l.length) d = fun k => if lng l F l.length k = 0 then none else some (.slice (some ⟨B k, 0, none⟩) (2 ^ lng l F l.length k) (2 ^ lng l F l.length k)) := by
                  funext k
                  unfold tmF
                  by_cases h : lng l F l.length k = 0
                  · rw [if_neg (fun e => (HK.out.2.2.2.2.1 k).1 e h), if_pos h]
                  · rw [if_pos ((HK.out.2.2.2.2.1 k).2 h), if_neg h]
                rw [← e]
                exact hMp
        · obtain ⟨k, rfl, hmk⟩ := kf_some hGk
          have hlk : lng l F l.length k ≠ 0 := by
            intro e
            unfold lmF at hmk
            rw [if_pos e] at hmk
            cases hmk
          obtain rfl : v = .int .i64 (lng l F l.length k : Int) := by
            unfold lmF at hmk
            rw [if_neg hlk] at hmk
            exact (Option.some.inj hmk).symm
          have hnd : ¬ d k := fun h => hdk ⟨k, rfl, h⟩
          obtain ⟨q2, hq2⟩ : ∃ q2, lng l F l.length k = q2 := ⟨_, rfl⟩
          have hq15 : q2 ≤ 15 := by rw [← hq2]; have := lng_le l F l.length k HFI.out.le; omega
          have hqi : (q2 : Int) ≤ 15 := by omega
          obtain ⟨s, hs⟩ : ∃ s, 2 ^ q2 = s := ⟨_, rfl⟩
          have hs1 : s ≤ 2 ^ 15 := by rw [← hs]; exact Nat.pow_le_pow_right (by decide) hq15
          have e3 : (2 : Int) ^ q2 = (s : Int) := by rw [← hs]; simp
          have hsi : (s : Int) ≤ 32768 := by omega
          have HK := Lib.hid (And.intro hSt (And.intro hMp (And.intro hR9 (And.intro hf9 (And.intro hn' (And.intro hlk (And.intro hnd (And.intro hq2 (And.intro hs (And.intro hB1 hB2))))))))))
          unfold rk at hnx hen
          rw [hq2] at hnx hen
          clear hSt hMp hRn hB1 hB2 hR9 hf9 hlk hnd hq2 hs hs1 hq15 hmk hGk hdk hn'
          go_wp2_with fail
          obtain ⟨hSt, hMp, hR9, hf9, hn', hlk, hnd, hq2, hs, hB1, hB2⟩ := HK.out
          have hw9 := hf9.size
          have hNw : N + 1 + 1 + 1 < wh.heap.size := HWH.out
          have hbk := new_of w9 (.cells #[.int .u64 (k : Int), .int .i64 (F : Int)] 74)
          have hfA := hf9.trans (Fr.alloc [wh.heap.size] w9 (.cells #[.int .u64 (k : Int), .int .i64 (F : Int)] 74))
          have hRA := hR9.to (Fr.alloc [] w9 (.cells #[.int .u64 (k : Int), .int .i64 (F : Int)] 74)) (by simp) (by simp)
          generalize w9.alloc (.cells #[.int .u64 (k : Int), .int .i64 (F : Int)] 74) = WA at *
          have hwA : wh.heap.size < WA.heap.size := hRA.lt
          have hStA := hSt.to (hfA.trans (Fr.drew (Fr.refl _ _))) (by simp; omega)
          have hMpA := hMp.to (hfA.trans (Fr.drew (Fr.refl _ _))) (by simp; omega)
          have hRA2 := hRA.to (Fr.drew (Fr.refl [] _)) (by simp) (by simp)
          have t1 := cell_of hStA.tab 1
          have t2 := cell_of hStA.tab 2
          have k0 := cell_of hbk 0
          have k1 := cell_of hbk 1
          simp only [List.size_toArray, List.getElem?_toArray, List.getElem?_cons_zero, List.getElem?_cons_succ, World.cell?_drew] at k0 k1 t1 t2
          have hkk : k < 2 ^ F := by
            rcases Nat.lt_or_ge k (2 ^ F) with h | h
            · exact h
            · exact absurd (lng_no l F l.length k h) hlk
          have hk32 : k ≤ 32768 := by have := HP.out; omega
          have hky := row_key F k (by omega) (by omega)
          have HLT := Lib.hid (lt_of hbk)
          have hmk := run_make_cells s (by omega) WA.drew
          have hMpB : Mp Try.prog 74 (WA.alloc (.cells ((List.range s).flatMap fun j => Cl (0, 0)).toArray 82)).drew (N + 1) m (kf F (tmF B (lng l F l.length) d)) := hMpA.to (Fr.alloc [] WA.drew (.cells ((List.range s).flatMap fun j => Cl ((fun _ => (0, 0)) j)).toArray 82)) (by simp)
          obtain ⟨WC, hup, hMC, hfC⟩ := hMpB.update (t := 69) (e := 68) (val := .slice (some ⟨WA.heap.size, 0, none⟩) s s) rowK Try.underlying69 (by unfold maxLen; omega) hky
          unfold rk at hup
          have z0 := cell_of (hfC.blk ((Fr.alloc [] WA.drew _).blk hStA.tab (by simp)) (by simp)) 2
          have z1 := cell_of (hfC.blk ((Fr.alloc [] WA.drew _).blk (show WA.drew.heap[w9.heap.size]? = _ from hbk) (by simp)) (by simp; omega)) 0
          have z2 := cell_of (hfC.blk ((Fr.alloc [] WA.drew _).blk (show WA.drew.heap[w9.heap.size]? = _ from hbk) (by simp)) (by simp; omega)) 1
          simp only [List.size_toArray, List.getElem?_toArray, List.getElem?_cons_zero, List.getElem?_cons_succ] at z0 z1 z2
          have HW := Lib.hid (And.intro hfA (And.intro hRA2 (And.intro hMC (And.intro hfC (And.intro hStA (And.intro hNw (And.intro hwA hky)))))))
          have HUP := Lib.hid hup
          have HMK := Lib.hid hmk
          have gm := HK.out.2.2.2.2.1
          clear hSt hMp hR9 hf9 hn' hlk hnd hq2 hs hB1 hB2 hbk hfA hRA hNw hw9 hwA hStA hMpA hRA2 hkk hk32 hky hmk hMpB hup hMC hfC gm hen hnx
          have hmk := HMK.out
          have hup := HUP.out
          have hws : IntKind.i64.wrap (s : Int) = (s : Int) := IntWalk.i64_in _ (by omega)
          have hl1 : N + 1 + 1 < WA.heap.size := by have := HW.out.2.2.2.2.1.hi; simp at this; omega
          have hl2 : w9.heap.size < WA.heap.size := HLT.out
          go_region_held3 (fun W => W.cell? ⟨N + 1 + 1, 2, none⟩ = some (.map (some (N + 1))) ∧ W.cell? ⟨w9.heap.size, 0, none⟩ = some (.int .u64 (k : Int)) ∧ W.cell? ⟨w9.heap.size, 1, none⟩ = some (.int .i64 (F : Int))) (first | go_keep) (first | fail)
          go_wp2_with fail
          go_roundg n'
          case measure => exact HK.out.2.2.2.2.1
          case rel =>
            obtain ⟨hSt, hMp, hR9, hf9, hn', hlk, hnd, hq2, hs, hB1, hB2⟩ := HK.out
            obtain ⟨hfA, hRA2, hMC, hfC, hStA, hNw, hwA, hky⟩ := HW.out
            have hfW := (Fr.alloc [] WA.drew (.cells ((List.range s).flatMap fun j => Cl (0, 0)).toArray 82))
            have hfD := hfW.nil.trans hfC
            have hwr := hfA.size
            refine ⟨fun j => d j ∨ j = k, fun j => if j = k then WA.heap.size else B j, m + 1, by omega, ?_, ?_, ?_, ?_, ?_⟩
            · exact (hStA.to hfW (by simp)).map hfC
            · have := (hRA2.to hfW (by simp) (by simp)).to hfC (by simp; omega) (by simp; omega)
              have e : (fun x : Value => (∃ j, x = rk F j ∧ d j) ∨ x = rk F k) = fun x => ∃ j, x = rk F j ∧ (d j ∨ j = k) := by
                funext x
                apply propext
                constructor
                · rintro (⟨j, h1, h2⟩ | h)
                  · exact ⟨j, h1, .inl h2⟩
                  · exact ⟨k, h, .inr rfl⟩
                · rintro ⟨j, h1, h2 | h2⟩
                  · exact .inl ⟨j, h1, h2⟩
                  · subst h2; exact .inr h1
              rw [← e]
              exact this
            · rw [← hs, ← hq2] at hMC
              have e := tmF_put B (lng l F l.length) d k WA.heap.size hnd
              rw [← e, ← kf_put]
              exact hMC
            · rintro j (hj | rfl)
              · have hjk : ¬ j = k := fun e => hnd (e ▸ hj)
                simp only [if_neg hjk]
                obtain ⟨b1, b2, b3⟩ := hB1 j hj
                refine ⟨b1, ?_, b3⟩
                have := lt_of b2
                exact (((b2.to (hfA.trans (Fr.drew (Fr.refl _ _))) (by simp; omega)).to hfW (by simp))).to hfC (by simp; omega)
              · simp only [if_true]
                refine ⟨hlk, ?_, by omega⟩
                rw [hq2, hs]
                exact Prow.to (F := fun _ => (0, 0)) (new_of WA.drew _) hfC (by simp; omega)
            · rintro i j (hi | rfl) (hj | rfl) hij
              · have hik : ¬ i = k := fun e => hnd (e ▸ hi)
                have hjk : ¬ j = k := fun e => hnd (e ▸ hj)
                simp only [if_neg hik, if_neg hjk] at hij
                exact hB2 i j hi hj hij
              · have hik : ¬ i = j := fun e => hnd (e ▸ hi)
                simp only [if_neg hik, if_true] at hij
                have := lt_of (hB1 i hi).2.1
                omega
              · have hik : ¬ j = i := fun e => hnd (e ▸ hj)
                simp only [if_neg hik, if_true] at hij
                have := lt_of (hB1 j hj).2.1
                omega
              · rfl
end Go.Proofs.Ytmnipgmheapfbaa

