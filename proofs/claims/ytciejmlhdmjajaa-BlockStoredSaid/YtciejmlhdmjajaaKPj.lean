/- pack.Lens: the whole contract. SameLens, Weigh; rows of lengths as lists; some answers that the document fixes (alive), of layer 6. Some answers that the document fixes (alive), of layer 6. -/
import Derived.Test.YtciejmlhdmjajaaKPd
namespace Go.Proofs.Ytciejmlhdmjajaa
open Go.RowKit
set_option linter.unusedVariables false
set_option linter.unusedSimpArgs false

/-- Counts or a limit that may not be. -/
def badP (l : List Int) (limit : Int) : Prop := badC l ∨ limit < 1 ∨ 15 < limit ∨ limit < (needN (sortC l).length : Int)
/-- The lengths of all symbols. -/
def lenS (l : List Int) (m s : Nat) : Nat := if (sortC l).length < 2 then tot (fun p : Nat × Nat => if s = p.2 then 1 else 0) (sortC l) else lensN l m s
set_option maxRecDepth 2000000 in
set_option maxHeartbeats 6400000 in
theorem lens_bad (a : Option Addr) (c : Nat) (l : List Int) (limit : Int) (w : World) (hs : SlOf (Zn .i64) 1 w a l) (hl : l.length ≤ 9223372036854775807) (hg0 : -9223372036854775808 ≤ limit) (hg1 : limit ≤ 9223372036854775807) (hb : badP l limit) :
    Calls Try.prog 27 #[.slice a l.length c, .int .i64 limit] w fun e w' => e = .returned (.tuple #[.slice none 0 0, .int .i64 2]) ∧ Fr [] w w' := by
  have HC := Lib.hid (leaves_any a c l w hs hl)
  by_cases hbad : badC l
  · have HB := Lib.hid hbad
    clear hs hl hb hbad
    go_enter Try.func27, Try.ntmps27
    go_wp2_with fail
    refine HC.out.mono ?_
    rintro e w1 ⟨hf1, ⟨_, rfl⟩ | ⟨hn, _⟩⟩
    · have HF := Lib.hid hf1
      clear hf1
      go_wp2_with fail
      go_ret2
      exact ⟨rfl, HF.out⟩
    · exact absurd HB.out hn
  · have hlen : (leafL 0 l).length ≤ 320 := by
      have := leafL_len l 0
      unfold badC at hbad
      omega
    obtain ⟨n, hn⟩ : ∃ n, (leafL 0 l).length = n := ⟨_, rfl⟩
    obtain ⟨nd, hnd⟩ : ∃ nd, needN (n : Int) = nd := ⟨_, rfl⟩
    rw [hn] at hlen
    have hn4 : (n : Int) ≤ 320 := by omega
    have hn3 : 0 ≤ (n : Int) := by omega
    have hb2 : limit < 1 ∨ 15 < limit ∨ limit < (nd : Int) := by
      rcases hb with h | h
      · exact absurd h hbad
      · rw [sortC_length, hn, hnd] at h; exact h
    have HN := Lib.hid (fun W => needs_any (n : Int) W (by omega) (by omega))
    rw [hnd] at HN
    have HB := Lib.hid hbad
    have HS := Lib.hid (And.intro hn hnd)
    have hv : ∀ v W, InOrder W v w.heap.size (leafL 0 l) → ∃ a0 c0, v = .slice a0 n c0 := by
      rintro v W (⟨rfl, h⟩ | ⟨g, cap, τ, rfl, _⟩)
      · rw [h] at hn; simp at hn; subst hn; exact ⟨_, _, rfl⟩
      · rw [hn]; exact ⟨_, _, rfl⟩
    have HV := Lib.hid hv
    clear hs hl hb hbad hlen hn hnd hv
    rcases (show limit < 1 ∨ ¬ limit < 1 ∧ 15 < limit ∨ ¬ limit < 1 ∧ ¬ 15 < limit ∧ limit < (nd : Int) by omega) with h1 | ⟨h1, h2⟩ | ⟨h1, h2, h3⟩
    · clear hb2
      go_enter Try.func27, Try.ntmps27
      go_wp2_with fail
      refine HC.out.mono ?_
      rintro e w1 ⟨hf1, ⟨hb, _⟩ | ⟨_, v, rfl, hv⟩⟩
      · exact absurd hb HB.out
      obtain ⟨a0, c0, rfl⟩ := HV.out v w1 hv
      have HF := Lib.hid hf1
      clear hf1 hv
      go_wp2_with fail
      go_ret2
      exact ⟨rfl, HF.out⟩
    · clear hb2
      have h1' : 1 ≤ limit := by omega
      clear h1
      go_enter Try.func27, Try.ntmps27
      go_wp2_with fail
      refine HC.out.mono ?_
      rintro e w1 ⟨hf1, ⟨hb, _⟩ | ⟨_, v, rfl, hv⟩⟩
      · exact absurd hb HB.out
      obtain ⟨a0, c0, rfl⟩ := HV.out v w1 hv
      have HF := Lib.hid hf1
      clear hf1 hv
      go_wp2_with fail
      go_ret2
      exact ⟨rfl, HF.out⟩
    · clear hb2
      have h1' : 1 ≤ limit := by omega
      have h2' : limit ≤ 15 := by omega
      clear h1 h2
      go_enter Try.func27, Try.ntmps27
      go_wp2_with fail
      refine HC.out.mono ?_
      rintro e w1 ⟨hf1, ⟨hb, _⟩ | ⟨_, v, rfl, hv⟩⟩
      · exact absurd hb HB.out
      obtain ⟨a0, c0, rfl⟩ := HV.out v w1 hv
      have HF := Lib.hid hf1
      clear hf1 hv
      go_wp2_with fail
      refine (HN.out _).mono ?_
      rintro e w2 ⟨rfl, hw⟩
      replace hw := hw.symm
      subst hw
      go_wp2_with fail
      go_ret2
      exact ⟨rfl, HF.out⟩
theorem made_row (w : World) (n : Nat) : Nrow (w.alloc (.cells (Lib.byteCells (List.replicate n 0)).toArray 5)) w.heap.size 5 .u8 n (fun _ => 0) := by
  unfold Nrow
  rw [new_of]
  congr 2
  apply Array.ext'
  apply List.ext_getElem?
  intro i
  by_cases hi : i < n
  · simp [Lib.byteCells, hi]
  · simp [Lib.byteCells, hi]
set_option maxRecDepth 2000000 in
set_option maxHeartbeats 6400000 in
theorem lens_none (a : Option Addr) (c : Nat) (l : List Int) (limit : Int) (w : World) (hs : SlOf (Zn .i64) 1 w a l) (hl : l.length ≤ 320) (hgood : ¬ badC l) (h1 : 1 ≤ limit) (h2 : limit ≤ 15) (hn : (leafL 0 l).length = 0) :
    Calls Try.prog 27 #[.slice a l.length c, .int .i64 limit] w fun e w' => ∃ gl, e = .returned (.tuple #[.slice (some ⟨gl, 0, none⟩) l.length l.length, .int .i64 0]) ∧ w.heap.size ≤ gl ∧ Nrow w' gl 5 .u8 l.length (fun _ => 0) ∧ Fr [] w w' := by
  have hl1 : (l.length : Int) ≤ 320 := by omega
  have HC := Lib.hid (leaves_any a c l w hs (by omega))
  have HN := Lib.hid (fun W => needs_any 0 W (by omega) (by omega))
  rw [show needN 0 = 0 from rfl] at HN
  have HG := Lib.hid (And.intro hgood hn)
  clear hs hgood hl hn
  go_enter Try.func27, Try.ntmps27
  go_wp2_with fail
  refine HC.out.mono ?_
  rintro e w1 ⟨hf1, ⟨hb, _⟩ | ⟨_, v, rfl, hv⟩⟩
  · exact absurd hb HG.out.1
  have hv2 : ∃ a0 c0, v = .slice a0 0 c0 := by
    rcases hv with ⟨rfl, h⟩ | ⟨g, cap, τ, rfl, _⟩
    · exact ⟨_, _, rfl⟩
    · rw [HG.out.2]; exact ⟨_, _, rfl⟩
  obtain ⟨a0, c0, rfl⟩ := hv2
  have HF := Lib.hid hf1
  clear hf1 hv
  go_wp2_with fail
  refine (HN.out _).mono ?_
  rintro e w2 ⟨rfl, hw⟩
  replace hw := hw.symm
  subst hw
  have hmk := run_make_bytes w1 l.length (by omega)
  go_wp2_with fail
  go_ret2
  have hA := Fr.alloc [] (w1.alloc (.cells (Lib.byteCells (List.replicate l.length 0)).toArray 5)) (.cells #[.slice (some ⟨w1.heap.size, 0, none⟩) l.length l.length] 25)
  exact ⟨w1.heap.size, rfl, HF.out.size, (made_row w1 l.length).to hA (by simp), HF.out.trans ((Fr.alloc [] _ _).trans hA)⟩
theorem made_one (w : World) (n k : Nat) : Nrow (w.alloc (.cells ((Lib.byteCells (List.replicate n 0)).set k (.int .u8 1)).toArray 5)) w.heap.size 5 .u8 n (fun s => if s = k then 1 else 0) := by
  unfold Nrow
  rw [new_of]
  congr 2
  apply Array.ext'
  apply List.ext_getElem?
  intro i
  by_cases hi : i < n
  · by_cases hk : k = i
    · subst hk; simp [Lib.byteCells, hi]
    · simp [Lib.byteCells, hi, hk, Ne.symm hk, List.getElem?_set]
  · simp [Lib.byteCells, hi]
theorem leafL_sym : ∀ (xs : List Int) (s : Nat), ∀ t ∈ leafL s xs, s ≤ t.s ∧ t.s < s + xs.length
  | [], s, t, ht => by simp [leafL] at ht
  | x :: xs, s, t, ht => by
    rw [leafL] at ht
    rw [List.length_cons]
    split at ht
    · rcases List.mem_cons.1 ht with rfl | h1
      · simp only; omega
      · have := leafL_sym xs (s + 1) t h1; omega
    · have := leafL_sym xs (s + 1) t ht; omega
set_option maxRecDepth 2000000 in
set_option maxHeartbeats 6400000 in
theorem lens_one (a : Option Addr) (c : Nat) (l : List Int) (limit : Int) (w : World) (hs : SlOf (Zn .i64) 1 w a l) (hl : l.length ≤ 320) (hgood : ¬ badC l) (h1 : 1 ≤ limit) (h2 : limit ≤ 15) (hn : (leafL 0 l).length = 1) :
    Calls Try.prog 27 #[.slice a l.length c, .int .i64 limit] w fun e w' => ∃ gl, e = .returned (.tuple #[.slice (some ⟨gl, 0, none⟩) l.length l.length, .int .i64 0]) ∧ w.heap.size ≤ gl ∧ Nrow w' gl 5 .u8 l.length (fun s => if s = (rowF (leafL 0 l) 0).s then 1 else 0) ∧ Fr [] w w' := by
  have hl1 : (l.length : Int) ≤ 320 := by omega
  have HC := Lib.hid (leaves_any a c l w hs (by omega))
  have HN := Lib.hid (fun W => needs_any 1 W (by omega) (by omega))
  rw [show needN 1 = 1 from rfl] at HN
  have hsy : (rowF (leafL 0 l) 0).s < l.length := by
    have : rowF (leafL 0 l) 0 ∈ leafL 0 l := by
      unfold rowF
      rw [List.getD_eq_getElem?_getD, List.getElem?_eq_getElem (by omega), Option.getD_some]
      exact List.getElem_mem _
    have := leafL_sym l 0 _ this
    omega
  obtain ⟨⟨xw, xs, xt⟩, hX⟩ : ∃ z, rowF (leafL 0 l) 0 = z := ⟨_, rfl⟩
  rw [hX] at hsy ⊢
  simp only at hsy ⊢
  have hsi : (xs : Int) < (l.length : Int) := by omega
  have HG := Lib.hid (And.intro hgood (And.intro hn (And.intro hX hl)))
  clear hs hgood hl hn hX
  go_enter Try.func27, Try.ntmps27
  go_wp2_with fail
  refine HC.out.mono ?_
  rintro e w1 ⟨hf1, ⟨hb, _⟩ | ⟨_, v, rfl, hv⟩⟩
  · exact absurd hb HG.out.1
  rcases hv with ⟨rfl, hnil⟩ | ⟨g, cap, τ, rfl, hge, hcap, hT, hsh, hso⟩
  · have := HG.out.2.1
    rw [hnil] at this
    simp at this
  rw [HG.out.2.1] at hT hsh hso ⊢
  have h0 : τ 0 = 0 := by have := shuf_lt hsh 0 (by omega); omega
  have c1 := hT.c1 0 (by omega)
  simp only [h0, HG.out.2.2.1, Nat.zero_mul, Nat.zero_add] at c1
  have hglt := hT.lt
  have HF := Lib.hid hf1
  clear hf1 hge hcap hT hsh hso h0
  go_wp2_with fail
  refine (HN.out _).mono ?_
  rintro e w2 ⟨rfl, hw⟩
  replace hw := hw.symm
  subst hw
  have hmk := run_make_bytes w1 l.length (by have := HG.out.2.2.2; omega)
  have hA := Fr.alloc [] (w1.alloc (.cells (Lib.byteCells (List.replicate l.length 0)).toArray 5)) (.cells #[.slice (some ⟨w1.heap.size, 0, none⟩) l.length l.length] 25)
  have hN := (made_row w1 l.length).to hA (by simp)
  have HH := Lib.hid (And.intro hA hN)
  have d0 := hN.cell xs hsy
  have fz := free_of hN xs
  clear hA hN
  go_wp2_with fail
  refine wp_region_quiet_tail 6 (by kernel_rfl) (by kernel_rfl) ?_
  simp only [List.take_succ_cons, List.take_zero, List.drop_succ_cons, List.drop_zero]
  repeat go_big_quiet_step (fail)
  refine wpQuiet_nil ?_
  go_wp2_with fail
  go_ret2
  have hA2 := Fr.alloc [] (w1.alloc (.cells ((Lib.byteCells (List.replicate l.length 0)).set xs (.int .u8 1)).toArray 5)) (.cells #[.slice (some ⟨w1.heap.size, 0, none⟩) l.length l.length] 25)
  exact ⟨w1.heap.size, rfl, HF.out.size, ((made_one w1 l.length xs).to hA2 (by simp)).to (l := []) (Fr.drew (Fr.refl [] _)) (by simp), HF.out.trans ((Fr.alloc [] _ _).trans hA2.drew)⟩
/-- pack.Lens: lengths, or that there are none. -/
theorem lens_any (a : Option Addr) (c : Nat) (l : List Int) (limit : Int) (w : World) (hs : SlOf (Zn .i64) 1 w a l) (hl : l.length ≤ 9223372036854775807) (hg0 : -9223372036854775808 ≤ limit) (hg1 : limit ≤ 9223372036854775807) :
    Calls Try.prog 27 #[.slice a l.length c, .int .i64 limit] w fun e w' => Fr [] w w' ∧ (badP l limit ∧ e = .returned (.tuple #[.slice none 0 0, .int .i64 2]) ∨ ¬ badP l limit ∧ ∃ gl, e = .returned (.tuple #[.slice (some ⟨gl, 0, none⟩) l.length l.length, .int .i64 0]) ∧ w.heap.size ≤ gl ∧ Nrow w' gl 5 .u8 l.length (lenS l limit.toNat)) := by
  by_cases hb : badP l limit
  · exact (lens_bad a c l limit w hs hl hg0 hg1 hb).mono fun e w' ⟨h1, h2⟩ => ⟨h2, .inl ⟨hb, h1⟩⟩
  · have hb' := hb
    unfold badP at hb'
    simp only [not_or] at hb'
    obtain ⟨h1, h2, h3, h4⟩ := hb'
    have hlen : l.length ≤ 320 := by unfold badC at h1; omega
    have hn := sortC_length l
    rcases (show (leafL 0 l).length = 0 ∨ (leafL 0 l).length = 1 ∨ 2 ≤ (leafL 0 l).length by omega) with h | h | h
    · refine (lens_none a c l limit w hs hlen h1 (by omega) (by omega) h).mono fun e w' ⟨gl, k1, k2, k3, k4⟩ => ⟨k4, .inr ⟨hb, gl, k1, k2, k3.congr fun s _ => ?_⟩⟩
      unfold lenS
      rw [if_pos (by omega), List.eq_nil_of_length_eq_zero (hn.trans h)]
      rfl
    · refine (lens_one a c l limit w hs hlen h1 (by omega) (by omega) h).mono fun e w' ⟨gl, k1, k2, k3, k4⟩ => ⟨k4, .inr ⟨hb, gl, k1, k2, k3.congr fun s _ => ?_⟩⟩
      unfold lenS
      rw [if_pos (by omega)]
      have hS : sortC l = cntL 0 l := by
        have hp := sortC_perm l
        have : ∃ p, cntL 0 l = [p] := by
          rw [← cntL_leafL]
          obtain ⟨t, ht⟩ : ∃ t, leafL 0 l = [t] := List.length_eq_one_iff.1 h
          exact ⟨_, by rw [ht]; rfl⟩
        obtain ⟨p, hp2⟩ := this
        rw [hp2] at hp ⊢
        exact List.perm_singleton.1 hp
      obtain ⟨t, ht⟩ : ∃ t, leafL 0 l = [t] := List.length_eq_one_iff.1 h
      rw [hS, ← cntL_leafL, ht]
      simp [tot, rowF]
    · refine (lens_good a c l limit w hs hlen h1 (by omega) (by omega) (by rw [← hn]; omega) h).mono fun e w' ⟨gl, k1, k2, k3, k4⟩ => ⟨k4, .inr ⟨hb, gl, k1, k2, k3.congr fun s _ => ?_⟩⟩
      unfold lenS
      rw [if_neg (by omega)]
end Go.Proofs.Ytciejmlhdmjajaa
namespace Go.Proofs.Ytciejmlhdmjajaa
open Go.RowKit
set_option linter.unusedVariables false
set_option linter.unusedSimpArgs false

theorem sl_nrow {w : World} {g n : Nat} {F : Nat → Nat} (h : Nrow w g 5 .u8 n F) : SlOf U8 1 w (some ⟨g, 0, none⟩) ((List.range n).map F) := fun _ => by
  refine ⟨g, 0, rfl, lt_of h, fun i x hi j u hu => ?_⟩
  have hj : j = 0 := by
    have := (List.getElem?_eq_some_iff.1 hu).1
    simp [U8] at this
    exact this
  subst hj
  have hin : i < n := by have := (List.getElem?_eq_some_iff.1 hi).1; simpa using this
  rw [List.getElem?_map, List.getElem?_range hin] at hi
  simp at hi
  subst hi
  rw [Nat.zero_add, Nat.mul_one, Nat.add_zero, h.cell i hin, ← hu]
  rfl

theorem take_ext {l m : List Nat} {j : Nat} (h : l.take j = m.take j) {x y : Nat} (hx : l[j]? = some x) (hy : m[j]? = some y) (he : x = y) : l.take (j + 1) = m.take (j + 1) := by
  rw [List.take_add_one, List.take_add_one, h, hx, hy, he]
set_option maxRecDepth 2000000 in
set_option maxHeartbeats 3200000 in
theorem same_lens (a b : Option Addr) (c d : Nat) (l m : List Nat) (w : World) (hl : SlOf U8 1 w a l) (hm : SlOf U8 1 w b m) (hll : l.length ≤ 9223372036854775807) (hml : m.length ≤ 9223372036854775807) (h8 : ∀ x ∈ l, x < 256) (k8 : ∀ x ∈ m, x < 256) :
    Calls Try.prog 14 #[.slice a l.length c, .slice b m.length d] w fun e w' => e = .returned (.bool (decide (l = m))) ∧ Fr [] w w' := by
  have hl1 : (l.length : Int) ≤ 9223372036854775807 := by omega
  have hm1 : (m.length : Int) ≤ 9223372036854775807 := by omega
  have HS := Lib.hid (And.intro hl hm)
  have H8 := Lib.hid (And.intro h8 k8)
  by_cases hlen : l.length = m.length
  · have hne : (((l.length : Nat) : Int) != ((m.length : Nat) : Int)) = false := by rw [hlen]; simp
    have HL := Lib.hid hlen
    clear hl hm hll hml h8 k8 hlen
    go_enter Try.func14, Try.ntmps14
    go_wp2_with fail
    go_loopw [5] (fun v wr => ∃ j : Nat, v = .int .i64 (j : Int) ∧ j ≤ l.length ∧ Hid (l.take j = m.take j) ∧ Fr [] w wr) (fun v _ => l.length - (intOf v).toNat)
    case atStart => exact ⟨0, rfl, Nat.zero_le _, Lib.hid rfl, Fr.refl _ _⟩
    case round =>
      obtain ⟨j, rfl, hj, hT, hf⟩ := hrel
      by_cases hjl : j < l.length
      · have hji : (j : Int) < (l.length : Int) := by omega
        have hjm : (j : Int) < (m.length : Int) := by have := HL.out; omega
        obtain ⟨x, hx⟩ : ∃ x, l[j]? = some x := ⟨l[j], List.getElem?_eq_getElem hjl⟩
        obtain ⟨y, hy⟩ : ∃ y, m[j]? = some y := ⟨m[j]'(by omega), List.getElem?_eq_getElem _⟩
        obtain ⟨g1, o1, rfl, hb1, hc1⟩ := (HS.out.1.below hf.below) (by intro h; rw [h] at hx; simp at hx)
        obtain ⟨g2, o2, rfl, hb2, hc2⟩ := (HS.out.2.below hf.below) (by intro h; rw [h] at hy; simp at hy)
        have c1 := hc1 j x hx 0 (.int .u8 (x : Int)) rfl
        have c2 := hc2 j y hy 0 (.int .u8 (y : Int)) rfl
        rw [Nat.mul_one, Nat.add_zero] at c1 c2
        have HX := Lib.hid (And.intro hx (And.intro hy hf))
        by_cases hxy : x = y
        · subst hxy
          clear hx hy hc1 hc2 hf
          go_wp2_with fail
          refine wp_region_quiet_tail 8 (by kernel_rfl) (by kernel_rfl) ?_
          simp only [List.take_succ_cons, List.take_zero, List.drop_succ_cons, List.drop_zero]
          repeat go_big_quiet_step (fail)
          refine wpQuiet_nil ?_
          go_wp2_with fail
          go_roundw
          case rel => exact ⟨j + 1, by go_num, by omega, Lib.hid (take_ext hT.out HX.out.1 HX.out.2.1 rfl), HX.out.2.2.drew⟩
          case measure => simp [intOf]; omega
        · have hne2 : ((x : Int) != (y : Int)) = true := by rw [bne_iff_ne]; omega
          have HN := Lib.hid (show ¬ l = m from fun he => by rw [he, hy] at hx; exact hxy (by simpa using hx.symm))
          clear hx hy hc1 hc2 hf hxy
          go_wp2_with fail
          refine wp_region_quiet_tail 8 (by kernel_rfl) (by kernel_rfl) ?_
          simp only [List.take_succ_cons, List.take_zero, List.drop_succ_cons, List.drop_zero]
          repeat go_big_quiet_step (fail)
          refine wpQuiet_nil ?_
          go_wp2_with fail
          go_ret
          exact ⟨by rw [decide_eq_false HN.out]; rfl, HX.out.2.2.drew⟩
      · have hje : j = l.length := by omega
        subst hje
        have HE := Lib.hid (show l = m by have := hT.out; rwa [List.take_length, HL.out, List.take_length] at this)
        have HF := Lib.hid hf
        clear hf
        go_wp2_with fail
        go_ret
        exact ⟨by rw [decide_eq_true HE.out]; rfl, HF.out⟩
  · have hne : (((l.length : Nat) : Int) != ((m.length : Nat) : Int)) = true := by rw [bne_iff_ne]; omega
    have HN := Lib.hid (show ¬ l = m from fun he => hlen (by rw [he]))
    clear hl hm hll hml h8 k8 hlen
    go_enter Try.func14, Try.ntmps14
    go_wp2_with fail
    go_ret
    exact ⟨by rw [decide_eq_false HN.out]; rfl, Fr.refl _ _⟩

/-- What lengths weigh, by counts. -/
def weighN : List Nat → List Int → Nat
  | a :: l, c :: m => a * c.toNat + weighN l m
  | _, _ => 0
theorem weigh_snoc : ∀ (l : List Nat) (m : List Int) (j : Nat) (a : Nat) (c : Int), l[j]? = some a → m[j]? = some c → weighN (l.take (j + 1)) (m.take (j + 1)) = weighN (l.take j) (m.take j) + a * c.toNat
  | [], m, j, a, c, h, _ => by simp at h
  | a0 :: l, [], j, a, c, _, h => by simp at h
  | a0 :: l, c0 :: m, 0, a, c, h, k => by simp at h k; subst h; subst k; simp [weighN]
  | a0 :: l, c0 :: m, j + 1, a, c, h, k => by
    have ih := weigh_snoc l m j a c (by simpa using h) (by simpa using k)
    rw [List.take_succ_cons, List.take_succ_cons, List.take_succ_cons, List.take_succ_cons]
    simp only [weighN] at ih ⊢
    omega
theorem weigh_min : ∀ (l : List Nat) (m : List Int), weighN (l.take (min l.length m.length)) (m.take (min l.length m.length)) = weighN l m
  | [], m => by simp [weighN]
  | a :: l, [] => by simp [weighN]
  | a :: l, c :: m => by
    have := weigh_min l m
    rw [List.length_cons, List.length_cons, Nat.succ_min_succ, List.take_succ_cons, List.take_succ_cons]
    simp only [weighN, this]
theorem weigh_le : ∀ (l : List Nat) (m : List Int) (B : Nat), (∀ x ∈ l, x < 256) → (∀ c ∈ m, c ≤ (B : Int)) → weighN l m ≤ l.length * (256 * B)
  | [], m, B, _, _ => by simp [weighN]
  | a :: l, [], B, _, _ => by simp [weighN]
  | a :: l, c :: m, B, h, k => by
    have ih := weigh_le l m B (fun x hx => h x (by simp [hx])) (fun x hx => k x (by simp [hx]))
    have h1 := h a (by simp)
    have h2 := k c (by simp)
    simp only [weighN, List.length_cons]
    have : a * c.toNat ≤ 256 * B := Nat.mul_le_mul (by omega) (by omega)
    rw [Nat.add_mul]
    omega
end Go.Proofs.Ytciejmlhdmjajaa
namespace Go.Proofs.Ytciejmlhdmjajaa
open Go.RowKit
set_option linter.unusedVariables false
set_option linter.unusedSimpArgs false

/-- All symbols' lengths. -/
def lensL (l : List Int) (m : Nat) : List Nat := (List.range l.length).map (lenS l m)
section
variable {α : Type}
def mrgF : Nat → List (Nat × α) → List (Nat × α) → List (Nat × α)
  | 0, A, B => A ++ B
  | f + 1, [], B => B
  | f + 1, a :: A, [] => a :: A
  | f + 1, a :: A, b :: B => if a.1 ≤ b.1 then a :: mrgF f A (b :: B) else b :: mrgF f (a :: A) B
theorem mrgF_eq : ∀ (f : Nat) (A B : List (Nat × α)), A.length + B.length ≤ f → mrgF f A B = mrg A B
  | 0, [], [], _ => by rw [mrg_nil]; rfl
  | 0, a :: A, B, h => by simp at h
  | 0, [], b :: B, h => by simp at h
  | f + 1, [], B, _ => by rw [mrg_nil]; rfl
  | f + 1, a :: A, [], _ => by rw [mrg_right]; rfl
  | f + 1, a :: A, b :: B, h => by
    simp only [List.length_cons] at h
    rw [mrg_cons, mrgF, mrgF_eq f A (b :: B) (by simp only [List.length_cons]; omega), mrgF_eq f (a :: A) B (by simp only [List.length_cons]; omega)]
def levF (node : α → α → α) (L : List (Nat × α)) : Nat → List (Nat × α)
  | 0 => L
  | j + 1 => mrgF 64 L (prs node (levF node L j))
theorem levF_eq (node : α → α → α) (L : List (Nat × α)) (h : L.length ≤ 20) : ∀ j, levF node L j = lev node L j
  | 0 => rfl
  | j + 1 => by
    have := lev_le node L j
    rw [levF, lev, levF_eq node L h j, mrgF_eq _ _ _ (by rw [prs_length]; omega)]
end
theorem lens_eval (l : List Int) (m : Nat) (S : List (Nat × Nat)) (hS : sortC l = S) (h2 : 2 ≤ S.length) (h20 : S.length ≤ 20) (s : Nat) :
    lenS l m s = tot (fun x => occ x.2 s) ((levF PT.node (S.map leafP) (m - 1)).take (2 * S.length - 2)) := by
  unfold lenS lensN lenOf
  rw [hS, if_neg (by omega), levF_eq _ _ (by simpa using h20), List.length_map]
theorem s1_ : sortC [1, 1, 2, 4] = [(1, 0), (1, 1), (2, 2), (4, 3)] := (sortC_of (List.Perm.refl _) (by decide)).symm
theorem s2_ : sortC [0, 5] = [(5, 1)] := (sortC_of (List.Perm.refl _) (by decide)).symm
theorem s3_ : sortC [1, 1, 1] = [(1, 0), (1, 1), (1, 2)] := (sortC_of (List.Perm.refl _) (by decide)).symm
theorem l1_ : lensL [1, 1, 2, 4] 15 = [3, 3, 2, 1] := by
  unfold lensL
  rw [List.map_congr_left (fun s _ => lens_eval _ _ _ s1_ (by decide) (by decide) s)]
  decide +kernel
theorem l2_ : lensL [1, 1, 2, 4] 2 = [2, 2, 2, 2] := by
  unfold lensL
  rw [List.map_congr_left (fun s _ => lens_eval _ _ _ s1_ (by decide) (by decide) s)]
  decide +kernel
theorem l3_ : lensL [0, 5] 1 = [0, 1] := by
  unfold lensL lenS
  rw [s2_]
  decide +kernel
/-- A row of counts. -/
def crow (l : List Int) : Obj := .cells (l.map fun n => Value.int .i64 n).toArray 3
theorem sl_crow {w : World} {g : Nat} {l : List Int} (h : w.heap[g]? = some (crow l)) : SlOf (Zn .i64) 1 w (some ⟨g, 0, none⟩) l := fun _ => by
  refine ⟨g, 0, rfl, lt_of h, fun i x hi j u hu => ?_⟩
  have hj : j = 0 := by
    have := (List.getElem?_eq_some_iff.1 hu).1
    simp [Zn] at this
    exact this
  subst hj
  unfold crow at h
  rw [cell_of h]
  simp [Zn] at hu
  subst hu
  simp [hi]
def brow (l : List Nat) : Obj := .cells (l.map fun (n : Nat) => Value.int .u8 (n : Int)).toArray 5
theorem sl_brow {w : World} {g : Nat} {l : List Nat} (h : w.heap[g]? = some (brow l)) : SlOf U8 1 w (some ⟨g, 0, none⟩) l := fun _ => by
  refine ⟨g, 0, rfl, lt_of h, fun i x hi j u hu => ?_⟩
  have hj : j = 0 := by
    have := (List.getElem?_eq_some_iff.1 hu).1
    simp [U8] at this
    exact this
  subst hj
  unfold brow at h
  rw [cell_of h]
  simp [U8] at hu
  subst hu
  simp [hi]
/-- pack.Lens's answer, as a list of lengths. -/
def Lensed (w w' : World) (l : List Int) (limit : Int) (e : Ending) : Prop :=
  Fr [] w w' ∧ (badP l limit ∧ e = .returned (.tuple #[.slice none 0 0, .int .i64 2]) ∨ ¬ badP l limit ∧ ∃ gl, e = .returned (.tuple #[.slice (some ⟨gl, 0, none⟩) l.length l.length, .int .i64 0]) ∧ w.heap.size ≤ gl ∧ Nrow w' gl 5 .u8 l.length (lenS l limit.toNat))
theorem Lensed.ok {w w' : World} {l : List Int} {limit : Int} {e : Ending} (h : Lensed w w' l limit e) (hb : ¬ badP l limit) : Fr [] w w' ∧ ∃ gl, e = .returned (.tuple #[.slice (some ⟨gl, 0, none⟩) l.length l.length, .int .i64 0]) ∧ w.heap.size ≤ gl ∧ Nrow w' gl 5 .u8 l.length (lenS l limit.toNat) := by
  obtain ⟨h1, ⟨h2, _⟩ | ⟨_, h3⟩⟩ := h
  · exact absurd h2 hb
  · exact ⟨h1, h3⟩
theorem Lensed.no {w w' : World} {l : List Int} {limit : Int} {e : Ending} (h : Lensed w w' l limit e) (hb : badP l limit) : Fr [] w w' ∧ e = .returned (.tuple #[.slice none 0 0, .int .i64 2]) := by
  obtain ⟨h1, ⟨_, h2⟩ | ⟨h2, _⟩⟩ := h
  · exact ⟨h1, h2⟩
  · exact absurd hb h2
theorem nrow_list {w : World} {g n : Nat} {F : Nat → Nat} {l : List Nat} (h : Nrow w g 5 .u8 n F) (hl : (List.range n).map F = l) : SlOf U8 1 w (some ⟨g, 0, none⟩) l := by rw [← hl]; exact sl_nrow h
theorem badC_not {l : List Int} (h1 : l.length ≤ 320) (h2 : ∀ x ∈ l, 0 ≤ x ∧ x ≤ 1073741824) : ¬ badC l := by
  rintro (h | ⟨x, hx, h⟩)
  · omega
  · have := h2 x hx; omega
theorem g1_ : ¬ badP [1, 1, 2, 4] 15 := by
  unfold badP; rw [s1_]
  rintro (h | h)
  · exact badC_not (by decide) (by decide) h
  · revert h; decide
theorem g2_ : ¬ badP [1, 1, 2, 4] 2 := by
  unfold badP; rw [s1_]
  rintro (h | h)
  · exact badC_not (by decide) (by decide) h
  · revert h; decide
theorem g3_ : ¬ badP [0, 5] 1 := by
  unfold badP; rw [s2_]
  rintro (h | h)
  · exact badC_not (by decide) (by decide) h
  · revert h; decide
theorem g4_ : badP [1, 1, 1] 1 := by
  unfold badP; rw [s3_]
  exact .inr (by decide)

theorem al_1 (g : Nat) (w : World) (h : w.heap[g]? = some (.cells #[.int .i64 1, .int .i64 1, .int .i64 2, .int .i64 4] 3 (0, 0))) :
    Calls Try.prog 27 #[.slice (some ⟨g, 0, none⟩) 4 4, .int .i64 15] w fun e w' => ∃ gl, e = .returned (.tuple #[.slice (some ⟨gl, 0, none⟩) 4 4, .int .i64 0]) ∧ SlOf U8 1 w' (some ⟨gl, 0, none⟩) [3, 3, 2, 1] ∧ gl < w'.heap.size ∧ Fr [] w w' :=
  (lens_any (some ⟨g, 0, none⟩) 4 [1, 1, 2, 4] 15 w (sl_crow h) (by decide) (by decide) (by decide)).mono fun e w' hh => by
    obtain ⟨h1, gl, h2, h3, h4⟩ := Lensed.ok hh g1_
    exact ⟨gl, h2, nrow_list h4 l1_, lt_of h4, h1⟩
theorem al_2 (g : Nat) (w : World) (h : w.heap[g]? = some (.cells #[.int .i64 1, .int .i64 1, .int .i64 2, .int .i64 4] 3 (0, 0))) :
    Calls Try.prog 27 #[.slice (some ⟨g, 0, none⟩) 4 4, .int .i64 2] w fun e w' => ∃ gl, e = .returned (.tuple #[.slice (some ⟨gl, 0, none⟩) 4 4, .int .i64 0]) ∧ SlOf U8 1 w' (some ⟨gl, 0, none⟩) [2, 2, 2, 2] ∧ gl < w'.heap.size ∧ Fr [] w w' :=
  (lens_any (some ⟨g, 0, none⟩) 4 [1, 1, 2, 4] 2 w (sl_crow h) (by decide) (by decide) (by decide)).mono fun e w' hh => by
    obtain ⟨h1, gl, h2, h3, h4⟩ := Lensed.ok hh g2_
    exact ⟨gl, h2, nrow_list h4 l2_, lt_of h4, h1⟩
theorem al_3 (g : Nat) (w : World) (h : w.heap[g]? = some (.cells #[.int .i64 0, .int .i64 5] 3 (0, 0))) :
    Calls Try.prog 27 #[.slice (some ⟨g, 0, none⟩) 2 2, .int .i64 1] w fun e w' => ∃ gl, e = .returned (.tuple #[.slice (some ⟨gl, 0, none⟩) 2 2, .int .i64 0]) ∧ SlOf U8 1 w' (some ⟨gl, 0, none⟩) [0, 1] ∧ gl < w'.heap.size ∧ Fr [] w w' :=
  (lens_any (some ⟨g, 0, none⟩) 2 [0, 5] 1 w (sl_crow h) (by decide) (by decide) (by decide)).mono fun e w' hh => by
    obtain ⟨h1, gl, h2, h3, h4⟩ := Lensed.ok hh g3_
    exact ⟨gl, h2, nrow_list h4 l3_, lt_of h4, h1⟩
theorem al_4 (g : Nat) (w : World) (h : w.heap[g]? = some (.cells #[.int .i64 1, .int .i64 1, .int .i64 1] 3 (0, 0))) :
    Calls Try.prog 27 #[.slice (some ⟨g, 0, none⟩) 3 3, .int .i64 1] w fun e w' => e = .returned (.tuple #[.slice none 0 0, .int .i64 2]) ∧ Fr [] w w' :=
  (lens_any (some ⟨g, 0, none⟩) 3 [1, 1, 1] 1 w (sl_crow h) (by decide) (by decide) (by decide)).mono fun e w' hh => by
    obtain ⟨h1, h2⟩ := Lensed.no hh g4_
    exact ⟨h2, h1⟩
theorem al_same (a b : Option Addr) (c d n : Nat) (l : List Nat) (w : World) (hn : l.length = n) (hl : SlOf U8 1 w a l) (hm : SlOf U8 1 w b l) (hll : l.length ≤ 1000) (h8 : ∀ x ∈ l, x < 256) :
    Calls Try.prog 14 #[.slice a n c, .slice b n d] w fun e w' => e = .returned (.bool true) ∧ Fr [] w w' := by
  subst hn
  exact (same_lens a b c d l l w hl hm (by omega) (by omega) h8 h8).mono fun e w' h => by simpa using h

end Go.Proofs.Ytciejmlhdmjajaa

