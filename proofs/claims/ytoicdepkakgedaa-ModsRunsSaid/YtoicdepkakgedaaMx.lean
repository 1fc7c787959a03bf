/- The statement ModsRuns: the walk of its Go function. -/
import Derived.Test.YtoicdepkakgedaaMt
namespace Go.Proofs.Ytoicdepkakgedaa
open Go.RowKit
set_option linter.unusedVariables false
set_option linter.unusedSimpArgs false

theorem apart_get (l : List (Nat × Nat)) (h : apart l) (i : Nat) (r s : Nat × Nat) (hr : l[i]? = some r) (hs : l[i + 1]? = some s) : r.2 + 4 < s.1 := by
  induction l generalizing i with
  | nil => simp at hr
  | cons x l ih =>
    cases l with
    | nil => simp at hs
    | cons y l =>
      cases i with
      | zero =>
        simp at hr hs
        subst hr hs
        exact h.1
      | succ i => exact ih h.2 i (by simpa using hr) (by simpa using hs)

/-- A row of bools. -/
def Brow (w : World) (g n : Nat) (F : Nat → Bool) : Prop := w.heap[g]? = some (.cells ((List.range n).map fun j => Value.bool (F j)).toArray 4 (0, 0))
theorem Brow.cell {w : World} {g n : Nat} {F : Nat → Bool} (h : Brow w g n F) (k : Nat) (hk : k < n) : w.cell? ⟨g, k, none⟩ = some (.bool (F k)) := by
  rw [cell_of h]; simp [hk]
theorem Brow.set_ {w : World} {g n : Nat} {F G : Nat → Bool} (h : Brow w g n F) (k : Nat) (hk : k < n) (hG : ∀ j, j < n → G j = (F j || decide (j = k))) : Brow (w.setCell ⟨g, k, none⟩ (.bool true)) g n G := by
  unfold Brow
  rw [set_of h k]
  congr 2
  apply Array.ext'
  simp only [List.setIfInBounds_toArray]
  apply List.ext_getElem
  · simp
  · intro j h1 h2
    have hj : j < n := by simpa using h2
    rw [List.getElem_set]
    simp only [List.getElem_map, List.getElem_range]
    rw [hG j hj]
    by_cases hjk : k = j
    · subst hjk; simp
    · rw [if_neg hjk, decide_eq_false (fun e => hjk e.symm), Bool.or_false]
theorem boolinfo : ∃ i0 : TypeInfo, Try.prog.info? 4 = some i0 ∧ i0.zero = some (.bool false) ∧ i0.size = 1 ∧ i0.bytes = 1 :=
  info_parts (show (Try.prog.info? 4).map (fun i => (i.zero, i.size, i.bytes)) = some (some (.bool false), 1, 1) by kernel_rfl)
theorem run_make_bools (n : Nat) (hn : n ≤ 1000000000) (w : World) : ∃ W, (Instr.makeSlice 50 (.int .i64 (n : Int)) (.int .i64 (n : Int))).run Try.prog w = .ok (.slice (some ⟨w.heap.size, 0, none⟩) n n) W ∧ Brow W w.heap.size n (fun _ => false) ∧ Fr [] w W := by
  obtain ⟨i0, hi, hz0, hz1, hz2⟩ := boolinfo
  have h := run_make (P := Try.prog) w 50 4 i0 (.bool false) Try.underlying50 hi hz0 .i64 .i64 n n (by omega) (Int.le_refl _) (by rw [hz2]; omega) (by omega)
  refine ⟨_, by rw [h, Int.toNat_natCast], ?_, Fr.alloc _ _ _⟩
  unfold Brow
  rw [new_of]
  congr 2
  rw [hz1, Nat.mul_one]
  apply Array.ext
  · rw [size_madeCells]; simp
  · intro i h1 h2
    simp [madeCells, Value.cells, Nat.mod_one]

/-- Is k in one of the first i runs? -/
def inRun (l : List (Nat × Nat)) (i k : Nat) : Bool := (l.take i).any fun r => decide (r.1 ≤ k ∧ k < r.2)
theorem inRun_succ (l : List (Nat × Nat)) (i k : Nat) (r : Nat × Nat) (h : l[i]? = some r) : inRun l (i + 1) k = (inRun l i k || decide (r.1 ≤ k ∧ k < r.2)) := by
  obtain ⟨hi, he⟩ := List.getElem?_eq_some_iff.1 h
  unfold inRun
  rw [List.take_succ_eq_append_getElem hi, List.any_append, he]
  simp
theorem inRun_all (l : List (Nat × Nat)) (k : Nat) (h : ∃ r ∈ l, r.1 ≤ k ∧ k < r.2) : inRun l l.length k = true := by
  unfold inRun
  rw [List.take_of_length_le (Nat.le_refl _), List.any_eq_true]
  obtain ⟨r, hr, h⟩ := h
  exact ⟨r, hr, decide_eq_true h⟩
/-- Where the run ahead of the i-th ends. -/
def endI (l : List (Nat × Nat)) (i : Nat) : Int := match i with
  | 0 => -1
  | i + 1 => match l[i]? with
    | none => -1
    | some r => (r.2 : Int)

set_option maxRecDepth 2000000 in
set_option maxHeartbeats 3200000 in
theorem modsRuns_walk (w : World) (a0 : ByteArray) (w0 : a0.size ≤ maxLen) (a1 : ByteArray) (w1 : a1.size ≤ maxLen) (a2 : Int) (w2 : (Lit.int .u8 a2).wf = true) (a3 : Int) (w3 : (Lit.int .u8 a3).wf = true) :
    Calls Try.prog 7 #[.string a0, .string a1, .int .u8 a2, .int .u8 a3] w fun e w' => e = .returned (.bool true) ∧ Below w.heap.size w w' := by
  unfold maxLen at w0 w1
  obtain ⟨z, rfl⟩ := u8_of w2
  obtain ⟨c, rfl⟩ := u8_of w3
  have i0 : (a0.size : Int) ≤ 9223372036854775807 := by omega
  have i1 : (a1.size : Int) ≤ 9223372036854775807 := by omega
  clear w0 w1 w2 w3
  by_cases h1 : 16384 < a0.size
  · have j1 : (16384 : Int) < (a0.size : Int) := by omega
    clear h1
    go_enter Try.func7, Try.ntmps7
    go_wp2_with fail
    refine (alive_any _).mono ?_
    rintro e w1 ⟨rfl, f1⟩
    go_wp2_with fail
    go_ret
    exact ⟨rfl, f1.below⟩
  by_cases h2 : 16384 < a1.size
  · have j1 : (a0.size : Int) ≤ 16384 := by omega
    have j2 : (16384 : Int) < (a1.size : Int) := by omega
    clear h1 h2
    go_enter Try.func7, Try.ntmps7
    go_wp2_with fail
    refine (alive_any _).mono ?_
    rintro e w1 ⟨rfl, f1⟩
    go_wp2_with fail
    go_ret
    exact ⟨rfl, f1.below⟩
  have j1 : (a0.size : Int) ≤ 16384 := by omega
  have j2 : (a1.size : Int) ≤ 16384 := by omega
  have hpg := fun W => pages_any a0 a1 z.toNat c W z.toNat_lt
  obtain ⟨p1, p2, p3⟩ := pgN_page z.toNat
  have sA := pgS_size (pgN z.toNat) c a0
  have sB := pgS_size (pgN z.toNat) c a1
  generalize pgS (pgN z.toNat) c a0 = A at *
  generalize pgS (pgN z.toNat) c a1 = B at *
  generalize pgN z.toNat = n at *
  have hpA : pageB A.size = true := by rw [sA]; exact p1
  have hAB : A.size = B.size := by rw [sA, sB]
  obtain ⟨R, hR⟩ : ∃ R, R = dlist (differs A B) A.size := ⟨_, rfl⟩
  obtain ⟨V, hV⟩ : ∃ V, V = R.map (runM B) := ⟨_, rfl⟩
  obtain ⟨d1, d2⟩ := dif_ok (a := A) (b := B) (by unfold difB; rw [hpA, decide_eq_true hAB]; rfl)
  rw [← hR, ← hV] at d1
  have hz : sizeN V ≤ 5 * dcount (differs A B) n := by
    have := diff_size A B hAB
    rw [← hR, ← hV, sA] at this
    exact this
  have hdc := dcount_le (differs A B) n
  have hvl := length_sizeN V
  have hRV : V.length = R.length := by rw [hV, List.length_map]
  have hinv := (dinv (differs A B) A.size).1
  change DInv (differs A B) A.size (dlist (differs A B) A.size) at hinv
  rw [← hR, sA] at hinv
  obtain ⟨nl, hnl⟩ : ∃ nl, V.length = nl := ⟨_, rfl⟩
  have hD : ∀ W, Calls Try.prog 25 #[.string A, .string B] W fun e w' => ∃ a c, e = .returned (.tuple #[.slice a nl c, .int .i64 0]) ∧ SlOf Md.enc 2 w' a V ∧ Fr [] W w' := fun W => by
    refine (diff_any A B W (by omega) (by omega)).mono ?_
    rintro e w' ⟨v, rfl, h1, h2⟩
    rw [d1] at h1
    rw [d2]
    obtain ⟨a, c, rfl, h3⟩ := slOf_own md_len h1 rfl
    rw [hnl]
    exact ⟨a, c, rfl, h3, h2⟩
  have hZ : ∀ W a c, SlOf Md.enc 2 W a V → Calls Try.prog 20 #[.slice a nl c] W fun e w' => e = .returned (.int .i64 (sizeN V)) ∧ Fr [] W w' := fun W a c h => by
    have := size_any a c V W h (by omega) (by omega)
    rw [hnl] at this; exact this
  have H := Lib.hid (And.intro hpg (And.intro hD hZ))
  have HV := Lib.hid (And.intro hV (And.intro hz (And.intro hdc (And.intro hRV (And.intro hinv (And.intro hnl (And.intro sA sB)))))))
  have hni : (n : Int) ≤ 16384 := by omega
  have hnl2 : (nl : Int) ≤ 100000 := by omega
  have hAi : (A.size : Int) = (n : Int) := by omega
  have HAI := Lib.hid hAi
  have hR2 : ∀ (i : Nat) (r : Nat × Nat), R[i]? = some r → ∃ (tx : ByteArray), V[i]? = some ⟨(r.1 : Int), tx⟩ ∧ tx = B.extract r.1 r.2 ∧ tx.size = r.2 - r.1 ∧ r.1 < r.2 ∧ r.2 ≤ n ∧ differs A B r.1 = true ∧ differs A B (r.2 - 1) = true := fun i r hr => by
    obtain ⟨q1, q2, q3, q4⟩ := hinv.ok r (List.mem_of_getElem? hr)
    refine ⟨B.extract r.1 r.2, ?_, rfl, ?_, q1, q2, q3, q4⟩
    · rw [hV, List.getElem?_map, hr]; rfl
    · simp; omega
  have HR2 := Lib.hid hR2
  clear hpg hD hZ h1 h2 p1 p2 p3 sA sB hpA hAB hV d1 d2 hz hvl hRV hinv hnl hdc hR hAi hR2
  go_enter Try.func7, Try.ntmps7
  go_wp2_with fail
  refine (H.out.1 _).mono ?_
  rintro e w1 ⟨rfl, f1⟩
  have F1 := Lib.hid f1
  clear f1
  go_wp2_with fail
  refine (H.out.2.1 _).mono ?_
  rintro e w2 ⟨a, cc, rfl, s2, f2⟩
  have F2 := Lib.hid (And.intro s2 (F1.out.trans f2))
  clear s2 f2
  obtain ⟨W3, hmk, hbr, hf3⟩ := run_make_bools n (by omega) w2
  have F3 := Lib.hid (And.intro hbr hf3)
  have hAi := HAI.out
  clear hbr hf3
  go_wp2_with fail
  clear hmk hAi
  have HS : Hid (∀ W, Below w2.heap.size w2 W → SlOf Md.enc 2 W a V) := Lib.hid (fun W hb => F2.out.1.below hb)
  go_loopw [14, 15] (fun en i wr => ∃ j : Nat, j ≤ nl ∧ i = .int .i64 j ∧ en = .int .i64 (endI R j) ∧ Brow wr w2.heap.size n (inRun R j) ∧ Below w2.heap.size w2 wr) (fun _ i _ => nl - (intOf i).toNat)
  case atStart => exact ⟨0, Nat.zero_le _, rfl, rfl, F3.out.1, F3.out.2.below⟩
  case round =>
    obtain ⟨j, hj, rfl, rfl, hbr, hB⟩ := hrel
    by_cases hjl : j < nl
    · have hjR : j < R.length := by have := HV.out.2.2.2.1; have := HV.out.2.2.2.2.2.1; omega
      obtain ⟨r, hr⟩ : ∃ r, R[j]? = some r := ⟨R[j], List.getElem?_eq_getElem hjR⟩
      obtain ⟨tx, hm, htx, hts, q1, q2, q3, q4⟩ := HR2.out j r hr
      obtain ⟨f, t⟩ := r
      simp only at hm htx hts q1 q2 q3 q4
      obtain ⟨b, o, rfl, hbl, hcell⟩ := HS.out _ hB (by intro h; rw [h] at hm; simp at hm)
      have c0 := hcell j _ hm 0 (.int .i64 (f : Int)) rfl
      have c1 := hcell j _ hm 1 (.string tx) rfl
      simp only [Nat.add_zero] at c0 c1
      rw [← Nat.add_assoc] at c1
      have hs := inRun_succ R j
      have hsr : ∀ k, inRun R (j + 1) k = (inRun R j k || decide (f ≤ k ∧ k < t)) := fun k => hs k _ hr
      have hend : endI R (j + 1) = (t : Int) := by simp only [endI]; rw [hr]
      have hgap : endI R j < 0 ∨ (0 ≤ endI R j ∧ 4 < (f : Int) - endI R j ∧ endI R j ≤ 16384) := by
        cases j with
        | zero => left; show (-1 : Int) < 0; omega
        | succ i =>
          right
          obtain ⟨s, hs⟩ : ∃ s, R[i]? = some s := ⟨R[i]'(by omega), List.getElem?_eq_getElem (by omega)⟩
          have := apart_get R HV.out.2.2.2.2.1.ap i s (f, t) hs hr
          obtain ⟨_, _, _, _, _, z2, _⟩ := HR2.out i s hs
          simp only [endI]
          rw [hs]
          simp only at this ⊢
          omega
      obtain ⟨x1, y1, ix1, iy1, ne1, _⟩ := two_bytes A B f (by have := HV.out.2.2.2.2.2.2.1; omega) (by have := HV.out.2.2.2.2.2.2.2; omega)
      obtain ⟨u, hu⟩ : ∃ u, t - 1 = u := ⟨_, rfl⟩
      obtain ⟨x2, y2, ix2, iy2, ne2, _⟩ := two_bytes A B u (by have := HV.out.2.2.2.2.2.2.1; omega) (by have := HV.out.2.2.2.2.2.2.2; omega)
      rw [q3] at ne1
      rw [hu] at q4
      rw [q4] at ne2
      simp only [Bool.not_true] at ne1 ne2
      have htu : IntKind.i64.wrap ((t : Int) - 1) = (u : Int) := by rw [IntKind.wrap_i64]; omega
      have htu' : (t : Int) - 1 = (u : Int) := by omega
      have hsum : (f : Int) + (tx.size : Int) = (t : Int) := by omega
      have hsumw : IntKind.i64.wrap ((f : Int) + (tx.size : Int)) = (t : Int) := by rw [IntKind.wrap_i64]; omega
      have hslc : ∀ W, (Instr.slice 9 (.string B) (some (.int .i64 (f : Int))) (some (.int .i64 (t : Int))) none).run Try.prog W = .ok (.string tx) W := fun W => by
        have := run_slice_string (P := Try.prog) (w := W) 9 B .i64 .i64 (f : Int) (t : Int) Try.underlying9 (by omega) (by omega) (by have := HV.out.2.2.2.2.2.2.2; omega)
        rw [htx]
        simpa using this
      have hji : (j : Int) < (nl : Int) := by omega
      have hj0 : 0 ≤ (j : Int) := by omega
      have hft : (f : Int) < (t : Int) := by omega
      have htn : (t : Int) ≤ (n : Int) := by omega
      have hf0 : 0 ≤ (f : Int) := by omega
      have htxi : (tx.size : Int) ≤ 16384 := by omega
      have d1 : decide (t ≤ f) = false := decide_eq_false (by omega)
      have d2 : decide (n < t) = false := decide_eq_false (by omega)
      obtain ⟨en, hen⟩ : ∃ en, endI R j = en := ⟨_, rfl⟩
      rw [hen] at hgap ⊢
      have HA := Lib.hid (And.intro ix1 (And.intro iy1 (And.intro ne1 (And.intro ix2 (And.intro iy2 (And.intro ne2 (And.intro htu hslc)))))))
      have HB := Lib.hid (And.intro hsum hsumw)
      have HC := Lib.hid (And.intro hbr (And.intro hB (And.intro hsr hend)))
      clear hm htx hts q3 q4 hcell hs hsr hend hen ix1 iy1 ne1 ix2 iy2 ne2 htu htu' hslc hsum hsumw hbr hB hr hu
      rcases hgap with hg | ⟨hg1, hg2, hg3⟩
      all_goals
        go_wp2_with fail
        obtain ⟨hsum, hsumw⟩ := HB.out
        go_quiet (fail)
        clear hsum hsumw
        have HC1 := Lib.hid (And.intro (show Brow (wr.drewN nq) w2.heap.size n (inRun R j) from HC.out.1) ((Fr.drewN [] wr nq).out HC.out.2.1 (by simp)))
        have c0' : (wr.drewN nq).cell? ⟨b, o + j * 2, none⟩ = some (.int .i64 (f : Int)) := c0
        have c1' : (wr.drewN nq).cell? ⟨b, o + j * 2 + 1, none⟩ = some (.string tx) := c1
        clear c0 c1
        generalize wr.drewN nq = W4 at *
        have hAi := HAI.out
        go_wp2_with fail
        clear hAi
        obtain ⟨ix1, iy1, ne1, ix2, iy2, ne2, htu, hslc⟩ := HA.out
        go_quiet (fail)
        clear ix1 iy1 ne1 ix2 iy2 ne2 htu hslc c0' c1'
        have HC2 := Lib.hid (And.intro (show Brow (W4.drewN nq) w2.heap.size n (inRun R j) from HC1.out.1) ((Fr.drewN [] W4 nq).out HC1.out.2 (by simp)))
        generalize W4.drewN nq = W5 at *
        go_wp2_with fail
        go_loopw [18] (fun i w6 => ∃ k : Nat, f ≤ k ∧ k ≤ t ∧ i = .int .i64 k ∧ Brow w6 w2.heap.size n (fun q => inRun R j q || decide (f ≤ q ∧ q < k)) ∧ Below w2.heap.size w2 w6) (fun i _ => t - (intOf i).toNat)
        case atStart =>
          refine ⟨f, Nat.le_refl _, by omega, rfl, ?_, HC2.out.2⟩
          have := HC2.out.1
          have e : (fun q => inRun R j q || decide (f ≤ q ∧ q < f)) = inRun R j := by
            funext q
            rw [decide_eq_false (by omega), Bool.or_false]
          rw [e]; exact this
        case round =>
          obtain ⟨k, hk1, hk2, rfl, hb6, hB6⟩ := hrel
          by_cases hkt : k < t
          · have hcell := hb6.cell k (by omega)
            have hfz := free_of hb6 k
            have hset := hb6.set_ (G := fun q => inRun R j q || decide (f ≤ q ∧ q < k + 1)) k (by omega) (fun q hq => by
              rw [Bool.or_assoc]
              congr 1
              rw [Bool.eq_iff_iff, Bool.or_eq_true, decide_eq_true_eq, decide_eq_true_eq, decide_eq_true_eq]
              omega)
            have H6 := Lib.hid (And.intro hset hB6)
            have hki : (k : Int) < (t : Int) := by omega
            have hk0 : 0 ≤ (k : Int) := by omega
            have hkn : (k : Int) < (n : Int) := by omega
            obtain ⟨bv, hbv⟩ : ∃ bv, (inRun R j k || decide (f ≤ k ∧ k < k)) = bv := ⟨_, rfl⟩
            rw [hbv] at hcell
            clear hset hB6 hb6 hbv
            go_wp2_with fail
            go_roundw
            case rel => exact ⟨k + 1, by omega, by omega, by go_num, H6.out.1, (Fr.setCell _ _ _ _).out H6.out.2 (by simp)⟩
            case measure => simp [intOf]; omega
          · have hke : k = t := by omega
            subst hke
            have e : (fun q => inRun R j q || decide (f ≤ q ∧ q < k)) = inRun R (j + 1) := by
              funext q
              rw [HC.out.2.2.1]
            rw [e] at hb6
            have H6 := Lib.hid (And.intro hb6 hB6)
            clear hb6 hB6 e
            go_wp2_with fail
            go_roundw
            case rel => exact ⟨j + 1, by omega, by go_num, by rw [HC.out.2.2.2], H6.out.1, H6.out.2⟩
            case measure => simp [intOf]; omega
    · have hje : j = nl := by omega
      subst hje
      have HB := Lib.hid (And.intro hbr hB)
      obtain ⟨sz, hsz⟩ : ∃ sz, sizeN V = sz := ⟨_, rfl⟩
      obtain ⟨dc, hdc⟩ : ∃ dc, dcount (differs A B) n = dc := ⟨_, rfl⟩
      have hle : (sz : Int) ≤ 5 * (dc : Int) := by have := HV.out.2.1; omega
      have hdn : (dc : Int) ≤ 16384 := by have := HV.out.2.2.1; omega
      have hsi : (sz : Int) ≤ 100000 := by omega
      have H2 := H.out.2.2
      rw [hsz] at H2
      have HZ := Lib.hid H2
      have HDC := Lib.hid hdc
      clear hbr hB hsz hdc H2
      go_wp2_with fail
      go_loopw [19, 20] (fun m i w7 => ∃ k : Nat, k ≤ n ∧ i = .int .i64 k ∧ m = .int .i64 (dcount (differs A B) k) ∧ Brow w7 w2.heap.size n (inRun R j) ∧ Below w2.heap.size w2 w7) (fun _ i _ => n - (intOf i).toNat)
      case atStart => exact ⟨0, Nat.zero_le _, rfl, rfl, HB.out.1, HB.out.2⟩
      case round =>
        obtain ⟨k, hk, rfl, rfl, hb7, hB7⟩ := hrel
        by_cases hkn : k < n
        · have hkni : (k : Int) < (n : Int) := by omega
          have hk0 : 0 ≤ (k : Int) := by omega
          obtain ⟨x, y, ix, iy, ne1, ne2⟩ := two_bytes A B k (by have := HV.out.2.2.2.2.2.2.1; omega) (by have := HV.out.2.2.2.2.2.2.2; omega)
          have hcl := dcount_le (differs A B) k
          have hcell := hb7.cell k hkn
          have H7 := Lib.hid (And.intro hb7 hB7)
          have hAi := HAI.out
          cases hd : differs A B k with
          | false =>
            rw [hd] at ne2
            have hst : dcount (differs A B) (k + 1) = dcount (differs A B) k := by simp [dcount, hd]
            have HST := Lib.hid hst
            clear hd hst ne1 hb7 hB7 hcell
            generalize dcount (differs A B) k = dk at *
            go_wp2_with fail
            go_quiet (fail)
            clear ix iy ne2
            have H8 := Lib.hid (And.intro (show Brow (wr.drewN nq) w2.heap.size n (inRun R j) from H7.out.1) ((Fr.drewN [] wr nq).out H7.out.2 (by simp)))
            generalize wr.drewN nq = W8 at *
            go_wp2_with fail
            go_roundw
            case rel => exact ⟨k + 1, by omega, by go_num, by rw [HST.out], H8.out.1, H8.out.2⟩
            case measure => simp [intOf]; omega
          | true =>
            rw [hd] at ne2
            have hst : dcount (differs A B) (k + 1) = dcount (differs A B) k + 1 := by simp [dcount, hd]
            have hin : inRun R j k = true := by
              have hjR : R.length = j := by have := HV.out.2.2.2.1; have := HV.out.2.2.2.2.2.1; omega
              rw [← hjR]
              exact inRun_all R k (HV.out.2.2.2.2.1.all k hkn hd)
            rw [hin] at hcell
            have HST := Lib.hid hst
            have hdk : (dcount (differs A B) k : Int) ≤ 16384 := by omega
            have hcell' := Lib.hid hcell
            clear hd hst ne1 hb7 hB7 hin hcell
            generalize dcount (differs A B) k = dk at *
            go_wp2_with fail
            go_quiet (fail)
            clear ix iy ne2
            have H8 := Lib.hid (And.intro (show Brow (wr.drewN nq) w2.heap.size n (inRun R j) from H7.out.1) ((Fr.drewN [] wr nq).out H7.out.2 (by simp)))
            have hcell : (wr.drewN nq).cell? ⟨w2.heap.size, k, none⟩ = some (.bool true) := hcell'.out
            generalize wr.drewN nq = W8 at *
            go_wp2_with fail
            go_roundw
            case rel => exact ⟨k + 1, by omega, by go_num, by rw [HST.out]; go_num, H8.out.1, H8.out.2⟩
            case measure => simp [intOf]; omega
        · have hke : k = n := by omega
          subst hke
          rw [HDC.out]
          have hsl := HS.out _ hB7
          have H7 := Lib.hid (And.intro hsl ((F2.out.2.below).trans (hB7.mono F2.out.2.size)))
          have hAi := HAI.out
          clear hb7 hB7 hsl
          go_wp2_with fail
          refine (HZ.out _ _ _ H7.out.1).mono ?_
          rintro e w8 ⟨rfl, f8⟩
          have H8 := Lib.hid (f8.out H7.out.2 (by simp))
          clear f8
          go_wp2_with fail
          refine (alive_any _).mono ?_
          rintro e w9 ⟨rfl, f9⟩
          go_wp2_with fail
          go_ret
          exact ⟨rfl, f9.out H8.out (by simp)⟩
end Go.Proofs.Ytoicdepkakgedaa
