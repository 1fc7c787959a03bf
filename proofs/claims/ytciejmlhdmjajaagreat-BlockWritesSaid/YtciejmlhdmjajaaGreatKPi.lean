/- pack.Lens: the whole contract. SameLens, Weigh; rows of lengths as lists; some answers that the document fixes (alive), of layer 6. -/
import Derived.Test.YtciejmlhdmjajaaGreatKPd
namespace Go.Proofs.YtciejmlhdmjajaaGreat
open Go.RowKit
set_option linter.unusedVariables false
set_option linter.unusedSimpArgs false

/-- Counts or a limit that may not be. -/
def badP (l : List Int) (limit : Int) : Prop := badC l ∨ limit < 1 ∨ 15 < limit ∨ limit < (needN (sortC l).length : Int)
/-- The lengths of all symbols. -/
def lenS (l : List Int) (m s : Nat) : Nat := if (sortC l).length < 2 then tot (fun p : Nat × Nat => if s = p.2 then 1 else 0) (sortC l) else lensN l m s
set_option maxRecDepth 2000000 in
set_option maxHeartbeats 6400000 in
theorem lens_bad (a : Option Addr) (c : Nat) (l : List Int) (limit : Int) (w : World) (hs : SlOf (Zn .i64) 1 w a l) (hl : l.length ≤ 9223372036854775807) (hg0 : -9223372036854775808 ≤ limit) (hg1 : limit ≤ 9223372036854775807) (hb : badP l limit) :
    Calls Tryz.prog 38 #[.slice a l.length c, .int .i64 limit] w fun e w' => e = .returned (.tuple #[.slice none 0 0, .int .i64 2]) ∧ Fr [] w w' := by
  have HC := Lib.hid (leaves_any a c l w hs hl)
  by_cases hbad : badC l
  · have HB := Lib.hid hbad
    clear hs hl hb hbad
    go_enter Tryz.func38, Tryz.ntmps38
    go_wp2_with fail
    refine HC.out.mono ?_
    rintro e w1 ⟨hf1, ⟨_, rfl⟩ | ⟨hn, _⟩⟩
    · have HF := Lib.hid hf1
      clear hf1
      go_wp2_with fail
      go_ret2
      exact ⟨rfl, HF.out⟩
    · exact absurd HB.out hn
  · have hlen : (leafL 0 l).length ≤ 320 := by
      have := leafL_len l 0
      unfold badC at hbad
      omega
    obtain ⟨n, hn⟩ : ∃ n, (leafL 0 l).length = n := ⟨_, rfl⟩
    obtain ⟨nd, hnd⟩ : ∃ nd, needN (n : Int) = nd := ⟨_, rfl⟩
    rw [hn] at hlen
    have hn4 : (n : Int) ≤ 320 := by omega
    have hn3 : 0 ≤ (n : Int) := by omega
    have hb2 : limit < 1 ∨ 15 < limit ∨ limit < (nd : Int) := by
      rcases hb with h | h
      · exact absurd h hbad
      · rw [sortC_length, hn, hnd] at h; exact h
    have HN := Lib.hid (fun W => needs_any (n : Int) W (by omega) (by omega))
    rw [hnd] at HN
    have HB := Lib.hid hbad
    have HS := Lib.hid (And.intro hn hnd)
    have hv : ∀ v W, InOrder W v w.heap.size (leafL 0 l) → ∃ a0 c0, v = .slice a0 n c0 := by
      rintro v W (⟨rfl, h⟩ | ⟨g, cap, τ, rfl, _⟩)
      · rw [h] at hn; simp at hn; subst hn; exact ⟨_, _, rfl⟩
      · rw [hn]; exact ⟨_, _, rfl⟩
    have HV := Lib.hid hv
    clear hs hl hb hbad hlen hn hnd hv
    rcases (show limit < 1 ∨ ¬ limit < 1 ∧ 15 < limit ∨ ¬ limit < 1 ∧ ¬ 15 < limit ∧ limit < (nd : Int) by omega) with h1 | ⟨h1, h2⟩ | ⟨h1, h2, h3⟩
    · clear hb2
      go_enter Tryz.func38, Tryz.ntmps38
      go_wp2_with fail
      refine HC.out.mono ?_
      rintro e w1 ⟨hf1, ⟨hb, _⟩ | ⟨_, v, rfl, hv⟩⟩
      · exact absurd hb HB.out
      obtain ⟨a0, c0, rfl⟩ := HV.out v w1 hv
      have HF := Lib.hid hf1
      clear hf1 hv
      go_wp2_with fail
      go_ret2
      exact ⟨rfl, HF.out⟩
    · clear hb2
      have h1' : 1 ≤ limit := by omega
      clear h1
      go_enter Tryz.func38, Tryz.ntmps38
      go_wp2_with fail
      refine HC.out.mono ?_
      rintro e w1 ⟨hf1, ⟨hb, _⟩ | ⟨_, v, rfl, hv⟩⟩
      · exact absurd hb HB.out
      obtain ⟨a0, c0, rfl⟩ := HV.out v w1 hv
      have HF := Lib.hid hf1
      clear hf1 hv
      go_wp2_with fail
      go_ret2
      exact ⟨rfl, HF.out⟩
    · clear hb2
      have h1' : 1 ≤ limit := by omega
      have h2' : limit ≤ 15 := by omega
      clear h1 h2
      go_enter Tryz.func38, Tryz.ntmps38
      go_wp2_with fail
      refine HC.out.mono ?_
      rintro e w1 ⟨hf1, ⟨hb, _⟩ | ⟨_, v, rfl, hv⟩⟩
      · exact absurd hb HB.out
      obtain ⟨a0, c0, rfl⟩ := HV.out v w1 hv
      have HF := Lib.hid hf1
      clear hf1 hv
      go_wp2_with fail
      refine (HN.out _).mono ?_
      rintro e w2 ⟨rfl, hw⟩
      replace hw := hw.symm
      subst hw
      go_wp2_with fail
      go_ret2
      exact ⟨rfl, HF.out⟩
theorem made_row (w : World) (n : Nat) : Nrow (w.alloc (.cells (Lib.byteCells (List.replicate n 0)).toArray 5)) w.heap.size 5 .u8 n (fun _ => 0) := by
  unfold Nrow
  rw [new_of]
  congr 2
  apply Array.ext'
  apply List.ext_getElem?
  intro i
  by_cases hi : i < n
  · simp [Lib.byteCells, hi]
  · simp [Lib.byteCells, hi]
set_option maxRecDepth 2000000 in
set_option maxHeartbeats 6400000 in
theorem lens_none (a : Option Addr) (c : Nat) (l : List Int) (limit : Int) (w : World) (hs : SlOf (Zn .i64) 1 w a l) (hl : l.length ≤ 320) (hgood : ¬ badC l) (h1 : 1 ≤ limit) (h2 : limit ≤ 15) (hn : (leafL 0 l).length = 0) :
    Calls Tryz.prog 38 #[.slice a l.length c, .int .i64 limit] w fun e w' => ∃ gl, e = .returned (.tuple #[.slice (some ⟨gl, 0, none⟩) l.length l.length, .int .i64 0]) ∧ w.heap.size ≤ gl ∧ Nrow w' gl 5 .u8 l.length (fun _ => 0) ∧ Fr [] w w' := by
  have hl1 : (l.length : Int) ≤ 320 := by omega
  have HC := Lib.hid (leaves_any a c l w hs (by omega))
  have HN := Lib.hid (fun W => needs_any 0 W (by omega) (by omega))
  rw [show needN 0 = 0 from rfl] at HN
  have HG := Lib.hid (And.intro hgood hn)
  clear hs hgood hl hn
  go_enter Tryz.func38, Tryz.ntmps38
  go_wp2_with fail
  refine HC.out.mono ?_
  rintro e w1 ⟨hf1, ⟨hb, _⟩ | ⟨_, v, rfl, hv⟩⟩
  · exact absurd hb HG.out.1
  have hv2 : ∃ a0 c0, v = .slice a0 0 c0 := by
    rcases hv with ⟨rfl, h⟩ | ⟨g, cap, τ, rfl, _⟩
    · exact ⟨_, _, rfl⟩
    · rw [HG.out.2]; exact ⟨_, _, rfl⟩
  obtain ⟨a0, c0, rfl⟩ := hv2
  have HF := Lib.hid hf1
  clear hf1 hv
  go_wp2_with fail
  refine (HN.out _).mono ?_
  rintro e w2 ⟨rfl, hw⟩
  replace hw := hw.symm
  subst hw
  have hmk := run_make_bytes w1 l.length (by omega)
  go_wp2_with fail
  go_ret2
  have hA := Fr.alloc [] (w1.alloc (.cells (Lib.byteCells (List.replicate l.length 0)).toArray 5)) (.cells #[.slice (some ⟨w1.heap.size, 0, none⟩) l.length l.length] 36)
  exact ⟨w1.heap.size, rfl, HF.out.size, (made_row w1 l.length).to hA (by simp), HF.out.trans ((Fr.alloc [] _ _).trans hA)⟩
theorem made_one (w : World) (n k : Nat) : Nrow (w.alloc (.cells ((Lib.byteCells (List.replicate n 0)).set k (.int .u8 1)).toArray 5)) w.heap.size 5 .u8 n (fun s => if s = k then 1 else 0) := by
  unfold Nrow
  rw [new_of]
  congr 2
  apply Array.ext'
  apply List.ext_getElem?
  intro i
  by_cases hi : i < n
  · by_cases hk : k = i
    · subst hk; simp [Lib.byteCells, hi]
    · simp [Lib.byteCells, hi, hk, Ne.symm hk, List.getElem?_set]
  · simp [Lib.byteCells, hi]
theorem leafL_sym : ∀ (xs : List Int) (s : Nat), ∀ t ∈ leafL s xs, s ≤ t.s ∧ t.s < s + xs.length
  | [], s, t, ht => by simp [leafL] at ht
  | x :: xs, s, t, ht => by
    rw [leafL] at ht
    rw [List.length_cons]
    split at ht
    · rcases List.mem_cons.1 ht with rfl | h1
      · simp only; omega
      · have := leafL_sym xs (s + 1) t h1; omega
    · have := leafL_sym xs (s + 1) t ht; omega
set_option maxRecDepth 2000000 in
set_option maxHeartbeats 6400000 in
theorem lens_one (a : Option Addr) (c : Nat) (l : List Int) (limit : Int) (w : World) (hs : SlOf (Zn .i64) 1 w a l) (hl : l.length ≤ 320) (hgood : ¬ badC l) (h1 : 1 ≤ limit) (h2 : limit ≤ 15) (hn : (leafL 0 l).length = 1) :
    Calls Tryz.prog 38 #[.slice a l.length c, .int .i64 limit] w fun e w' => ∃ gl, e = .returned (.tuple #[.slice (some ⟨gl, 0, none⟩) l.length l.length, .int .i64 0]) ∧ w.heap.size ≤ gl ∧ Nrow w' gl 5 .u8 l.length (fun s => if s = (rowF (leafL 0 l) 0).s then 1 else 0) ∧ Fr [] w w' := by
  have hl1 : (l.length : Int) ≤ 320 := by omega
  have HC := Lib.hid (leaves_any a c l w hs (by omega))
  have HN := Lib.hid (fun W => needs_any 1 W (by omega) (by omega))
  rw [show needN 1 = 1 from rfl] at HN
  have hsy : (rowF (leafL 0 l) 0).s < l.length := by
    have : rowF (leafL 0 l) 0 ∈ leafL 0 l := by
      unfold rowF
      rw [List.getD_eq_getElem?_getD, List.getElem?_eq_getElem (by omega), Option.getD_some]
      exact List.getElem_mem _
    have := leafL_sym l 0 _ this
    omega
  obtain ⟨⟨xw, xs, xt⟩, hX⟩ : ∃ z, rowF (leafL 0 l) 0 = z := ⟨_, rfl⟩
  rw [hX] at hsy ⊢
  simp only at hsy ⊢
  have hsi : (xs : Int) < (l.length : Int) := by omega
  have HG := Lib.hid (And.intro hgood (And.intro hn (And.intro hX hl)))
  clear hs hgood hl hn hX
  go_enter Tryz.func38, Tryz.ntmps38
  go_wp2_with fail
  refine HC.out.mono ?_
  rintro e w1 ⟨hf1, ⟨hb, _⟩ | ⟨_, v, rfl, hv⟩⟩
  · exact absurd hb HG.out.1
  rcases hv with ⟨rfl, hnil⟩ | ⟨g, cap, τ, rfl, hge, hcap, hT, hsh, hso⟩
  · have := HG.out.2.1
    rw [hnil] at this
    simp at this
  rw [HG.out.2.1] at hT hsh hso ⊢
  have h0 : τ 0 = 0 := by have := shuf_lt hsh 0 (by omega); omega
  have c1 := hT.c1 0 (by omega)
  simp only [h0, HG.out.2.2.1, Nat.zero_mul, Nat.zero_add] at c1
  have hglt := hT.lt
  have HF := Lib.hid hf1
  clear hf1 hge hcap hT hsh hso h0
  go_wp2_with fail
  refine (HN.out _).mono ?_
  rintro e w2 ⟨rfl, hw⟩
  replace hw := hw.symm
  subst hw
  have hmk := run_make_bytes w1 l.length (by have := HG.out.2.2.2; omega)
  have hA := Fr.alloc [] (w1.alloc (.cells (Lib.byteCells (List.replicate l.length 0)).toArray 5)) (.cells #[.slice (some ⟨w1.heap.size, 0, none⟩) l.length l.length] 36)
  have hN := (made_row w1 l.length).to hA (by simp)
  have HH := Lib.hid (And.intro hA hN)
  have d0 := hN.cell xs hsy
  have fz := free_of hN xs
  clear hA hN
  go_wp2_with fail
  refine wp_region_quiet_tail 6 (by kernel_rfl) (by kernel_rfl) ?_
  simp only [List.take_succ_cons, List.take_zero, List.drop_succ_cons, List.drop_zero]
  repeat go_big_quiet_step (fail)
  refine wpQuiet_nil ?_
  go_wp2_with fail
  go_ret2
  have hA2 := Fr.alloc [] (w1.alloc (.cells ((Lib.byteCells (List.replicate l.length 0)).set xs (.int .u8 1)).toArray 5)) (.cells #[.slice (some ⟨w1.heap.size, 0, none⟩) l.length l.length] 36)
  exact ⟨w1.heap.size, rfl, HF.out.size, ((made_one w1 l.length xs).to hA2 (by simp)).to (l := []) (Fr.drew (Fr.refl [] _)) (by simp), HF.out.trans ((Fr.alloc [] _ _).trans hA2.drew)⟩
/-- pack.Lens: lengths, or that there are none. -/
theorem lens_any (a : Option Addr) (c : Nat) (l : List Int) (limit : Int) (w : World) (hs : SlOf (Zn .i64) 1 w a l) (hl : l.length ≤ 9223372036854775807) (hg0 : -9223372036854775808 ≤ limit) (hg1 : limit ≤ 9223372036854775807) :
    Calls Tryz.prog 38 #[.slice a l.length c, .int .i64 limit] w fun e w' => Fr [] w w' ∧ (badP l limit ∧ e = .returned (.tuple #[.slice none 0 0, .int .i64 2]) ∨ ¬ badP l limit ∧ ∃ gl, e = .returned (.tuple #[.slice (some ⟨gl, 0, none⟩) l.length l.length, .int .i64 0]) ∧ w.heap.size ≤ gl ∧ Nrow w' gl 5 .u8 l.length (lenS l limit.toNat)) := by
  by_cases hb : badP l limit
  · exact (lens_bad a c l limit w hs hl hg0 hg1 hb).mono fun e w' ⟨h1, h2⟩ => ⟨h2, .inl ⟨hb, h1⟩⟩
  · have hb' := hb
    unfold badP at hb'
    simp only [not_or] at hb'
    obtain ⟨h1, h2, h3, h4⟩ := hb'
    have hlen : l.length ≤ 320 := by unfold badC at h1; omega
    have hn := sortC_length l
    rcases (show (leafL 0 l).length = 0 ∨ (leafL 0 l).length = 1 ∨ 2 ≤ (leafL 0 l).length by omega) with h | h | h
    · refine (lens_none a c l limit w hs hlen h1 (by omega) (by omega) h).mono fun e w' ⟨gl, k1, k2, k3, k4⟩ => ⟨k4, .inr ⟨hb, gl, k1, k2, k3.congr fun s _ => ?_⟩⟩
      unfold lenS
      rw [if_pos (by omega), List.eq_nil_of_length_eq_zero (hn.trans h)]
      rfl
    · refine (lens_one a c l limit w hs hlen h1 (by omega) (by omega) h).mono fun e w' ⟨gl, k1, k2, k3, k4⟩ => ⟨k4, .inr ⟨hb, gl, k1, k2, k3.congr fun s _ => ?_⟩⟩
      unfold lenS
      rw [if_pos (by omega)]
      have hS : sortC l = cntL 0 l := by
        have hp := sortC_perm l
        have : ∃ p, cntL 0 l = [p] := by
          rw [← cntL_leafL]
          obtain ⟨t, ht⟩ : ∃ t, leafL 0 l = [t] := List.length_eq_one_iff.1 h
          exact ⟨_, by rw [ht]; rfl⟩
        obtain ⟨p, hp2⟩ := this
        rw [hp2] at hp ⊢
        exact List.perm_singleton.1 hp
      obtain ⟨t, ht⟩ : ∃ t, leafL 0 l = [t] := List.length_eq_one_iff.1 h
      rw [hS, ← cntL_leafL, ht]
      simp [tot, rowF]
    · refine (lens_good a c l limit w hs hlen h1 (by omega) (by omega) (by rw [← hn]; omega) h).mono fun e w' ⟨gl, k1, k2, k3, k4⟩ => ⟨k4, .inr ⟨hb, gl, k1, k2, k3.congr fun s _ => ?_⟩⟩
      unfold lenS
      rw [if_neg (by omega)]
end Go.Proofs.YtciejmlhdmjajaaGreat
namespace Go.Proofs.YtciejmlhdmjajaaGreat
open Go.RowKit
set_option linter.unusedVariables false
set_option linter.unusedSimpArgs false

theorem sl_nrow {w : World} {g n : Nat} {F : Nat → Nat} (h : Nrow w g 5 .u8 n F) : SlOf U8 1 w (some ⟨g, 0, none⟩) ((List.range n).map F) := fun _ => by
  refine ⟨g, 0, rfl, lt_of h, fun i x hi j u hu => ?_⟩
  have hj : j = 0 := by
    have := (List.getElem?_eq_some_iff.1 hu).1
    simp [U8] at this
    exact this
  subst hj
  have hin : i < n := by have := (List.getElem?_eq_some_iff.1 hi).1; simpa using this
  rw [List.getElem?_map, List.getElem?_range hin] at hi
  simp at hi
  subst hi
  rw [Nat.zero_add, Nat.mul_one, Nat.add_zero, h.cell i hin, ← hu]
  rfl

theorem take_ext {l m : List Nat} {j : Nat} (h : l.take j = m.take j) {x y : Nat} (hx : l[j]? = some x) (hy : m[j]? = some y) (he : x = y) : l.take (j + 1) = m.take (j + 1) := by
  rw [List.take_add_one, List.take_add_one, h, hx, hy, he]
/-- What lengths weigh, by counts. -/
def weighN : List Nat → List Int → Nat
  | a :: l, c :: m => a * c.toNat + weighN l m
  | _, _ => 0
theorem weigh_snoc : ∀ (l : List Nat) (m : List Int) (j : Nat) (a : Nat) (c : Int), l[j]? = some a → m[j]? = some c → weighN (l.take (j + 1)) (m.take (j + 1)) = weighN (l.take j) (m.take j) + a * c.toNat
  | [], m, j, a, c, h, _ => by simp at h
  | a0 :: l, [], j, a, c, _, h => by simp at h
  | a0 :: l, c0 :: m, 0, a, c, h, k => by simp at h k; subst h; subst k; simp [weighN]
  | a0 :: l, c0 :: m, j + 1, a, c, h, k => by
    have ih := weigh_snoc l m j a c (by simpa using h) (by simpa using k)
    rw [List.take_succ_cons, List.take_succ_cons, List.take_succ_cons, List.take_succ_cons]
    simp only [weighN] at ih ⊢
    omega
theorem weigh_min : ∀ (l : List Nat) (m : List Int), weighN (l.take (min l.length m.length)) (m.take (min l.length m.length)) = weighN l m
  | [], m => by simp [weighN]
  | a :: l, [] => by simp [weighN]
  | a :: l, c :: m => by
    have := weigh_min l m
    rw [List.length_cons, List.length_cons, Nat.succ_min_succ, List.take_succ_cons, List.take_succ_cons]
    simp only [weighN, this]
theorem weigh_le : ∀ (l : List Nat) (m : List Int) (B : Nat), (∀ x ∈ l, x < 256) → (∀ c ∈ m, c ≤ (B : Int)) → weighN l m ≤ l.length * (256 * B)
  | [], m, B, _, _ => by simp [weighN]
  | a :: l, [], B, _, _ => by simp [weighN]
  | a :: l, c :: m, B, h, k => by
    have ih := weigh_le l m B (fun x hx => h x (by simp [hx])) (fun x hx => k x (by simp [hx]))
    have h1 := h a (by simp)
    have h2 := k c (by simp)
    simp only [weighN, List.length_cons]
    have : a * c.toNat ≤ 256 * B := Nat.mul_le_mul (by omega) (by omega)
    rw [Nat.add_mul]
    omega
end Go.Proofs.YtciejmlhdmjajaaGreat

