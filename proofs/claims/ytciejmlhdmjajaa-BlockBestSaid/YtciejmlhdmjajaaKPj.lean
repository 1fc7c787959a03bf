/- SameLens, Weigh; rows of lengths as lists; some answers that the document fixes (alive), of layer 6. Some answers that the document fixes (alive), of layer 6. -/
import Derived.Test.YtciejmlhdmjajaaKPh
namespace Go.Proofs.Ytciejmlhdmjajaa
open Go.RowKit
set_option linter.unusedVariables false
set_option linter.unusedSimpArgs false

theorem sl_nrow {w : World} {g n : Nat} {F : Nat → Nat} (h : Nrow w g 5 .u8 n F) : SlOf U8 1 w (some ⟨g, 0, none⟩) ((List.range n).map F) := fun _ => by
  refine ⟨g, 0, rfl, lt_of h, fun i x hi j u hu => ?_⟩
  have hj : j = 0 := by
    have := (List.getElem?_eq_some_iff.1 hu).1
    simp [U8] at this
    exact this
  subst hj
  have hin : i < n := by have := (List.getElem?_eq_some_iff.1 hi).1; simpa using this
  rw [List.getElem?_map, List.getElem?_range hin] at hi
  simp at hi
  subst hi
  rw [Nat.zero_add, Nat.mul_one, Nat.add_zero, h.cell i hin, ← hu]
  rfl

theorem take_ext {l m : List Nat} {j : Nat} (h : l.take j = m.take j) {x y : Nat} (hx : l[j]? = some x) (hy : m[j]? = some y) (he : x = y) : l.take (j + 1) = m.take (j + 1) := by
  rw [List.take_add_one, List.take_add_one, h, hx, hy, he]
set_option maxRecDepth 2000000 in
set_option maxHeartbeats 3200000 in
theorem same_lens (a b : Option Addr) (c d : Nat) (l m : List Nat) (w : World) (hl : SlOf U8 1 w a l) (hm : SlOf U8 1 w b m) (hll : l.length ≤ 9223372036854775807) (hml : m.length ≤ 9223372036854775807) (h8 : ∀ x ∈ l, x < 256) (k8 : ∀ x ∈ m, x < 256) :
    Calls Try.prog 14 #[.slice a l.length c, .slice b m.length d] w fun e w' => e = .returned (.bool (decide (l = m))) ∧ Fr [] w w' := by
  have hl1 : (l.length : Int) ≤ 9223372036854775807 := by omega
  have hm1 : (m.length : Int) ≤ 9223372036854775807 := by omega
  have HS := Lib.hid (And.intro hl hm)
  have H8 := Lib.hid (And.intro h8 k8)
  by_cases hlen : l.length = m.length
  · have hne : (((l.length : Nat) : Int) != ((m.length : Nat) : Int)) = false := by rw [hlen]; simp
    have HL := Lib.hid hlen
    clear hl hm hll hml h8 k8 hlen
    go_enter Try.func14, Try.ntmps14
    go_wp2_with fail
    go_loopw [5] (fun v wr => ∃ j : Nat, v = .int .i64 (j : Int) ∧ j ≤ l.length ∧ Hid (l.take j = m.take j) ∧ Fr [] w wr) (fun v _ => l.length - (intOf v).toNat)
    case atStart => exact ⟨0, rfl, Nat.zero_le _, Lib.hid rfl, Fr.refl _ _⟩
    case round =>
      obtain ⟨j, rfl, hj, hT, hf⟩ := hrel
      by_cases hjl : j < l.length
      · have hji : (j : Int) < (l.length : Int) := by omega
        have hjm : (j : Int) < (m.length : Int) := by have := HL.out; omega
        obtain ⟨x, hx⟩ : ∃ x, l[j]? = some x := ⟨l[j], List.getElem?_eq_getElem hjl⟩
        obtain ⟨y, hy⟩ : ∃ y, m[j]? = some y := ⟨m[j]'(by omega), List.getElem?_eq_getElem _⟩
        obtain ⟨g1, o1, rfl, hb1, hc1⟩ := (HS.out.1.below hf.below) (by intro h; rw [h] at hx; simp at hx)
        obtain ⟨g2, o2, rfl, hb2, hc2⟩ := (HS.out.2.below hf.below) (by intro h; rw [h] at hy; simp at hy)
        have c1 := hc1 j x hx 0 (.int .u8 (x : Int)) rfl
        have c2 := hc2 j y hy 0 (.int .u8 (y : Int)) rfl
        rw [Nat.mul_one, Nat.add_zero] at c1 c2
        have HX := Lib.hid (And.intro hx (And.intro hy hf))
        by_cases hxy : x = y
        · subst hxy
          clear hx hy hc1 hc2 hf
          go_wp2_with fail
          refine wp_region_quiet_tail 8 (by kernel_rfl) (by kernel_rfl) ?_
          simp only [List.take_succ_cons, List.take_zero, List.drop_succ_cons, List.drop_zero]
          repeat go_big_quiet_step (fail)
          refine wpQuiet_nil ?_
          go_wp2_with fail
          go_roundw
          case rel => exact ⟨j + 1, by go_num, by omega, Lib.hid (take_ext hT.out HX.out.1 HX.out.2.1 rfl), HX.out.2.2.drew⟩
          case measure => simp [intOf]; omega
        · have hne2 : ((x : Int) != (y : Int)) = true := by rw [bne_iff_ne]; omega
          have HN := Lib.hid (show ¬ l = m from fun he => by rw [he, hy] at hx; exact hxy (by simpa using hx.symm))
          clear hx hy hc1 hc2 hf hxy
          go_wp2_with fail
          refine wp_region_quiet_tail 8 (by kernel_rfl) (by kernel_rfl) ?_
          simp only [List.take_succ_cons, List.take_zero, List.drop_succ_cons, List.drop_zero]
          repeat go_big_quiet_step (fail)
          refine wpQuiet_nil ?_
          go_wp2_with fail
          go_ret
          exact ⟨by rw [decide_eq_false HN.out]; rfl, HX.out.2.2.drew⟩
      · have hje : j = l.length := by omega
        subst hje
        have HE := Lib.hid (show l = m by have := hT.out; rwa [List.take_length, HL.out, List.take_length] at this)
        have HF := Lib.hid hf
        clear hf
        go_wp2_with fail
        go_ret
        exact ⟨by rw [decide_eq_true HE.out]; rfl, HF.out⟩
  · have hne : (((l.length : Nat) : Int) != ((m.length : Nat) : Int)) = true := by rw [bne_iff_ne]; omega
    have HN := Lib.hid (show ¬ l = m from fun he => hlen (by rw [he]))
    clear hl hm hll hml h8 k8 hlen
    go_enter Try.func14, Try.ntmps14
    go_wp2_with fail
    go_ret
    exact ⟨by rw [decide_eq_false HN.out]; rfl, Fr.refl _ _⟩

/-- What lengths weigh, by counts. -/
def weighN : List Nat → List Int → Nat
  | a :: l, c :: m => a * c.toNat + weighN l m
  | _, _ => 0
theorem weigh_snoc : ∀ (l : List Nat) (m : List Int) (j : Nat) (a : Nat) (c : Int), l[j]? = some a → m[j]? = some c → weighN (l.take (j + 1)) (m.take (j + 1)) = weighN (l.take j) (m.take j) + a * c.toNat
  | [], m, j, a, c, h, _ => by simp at h
  | a0 :: l, [], j, a, c, _, h => by simp at h
  | a0 :: l, c0 :: m, 0, a, c, h, k => by simp at h k; subst h; subst k; simp [weighN]
  | a0 :: l, c0 :: m, j + 1, a, c, h, k => by
    have ih := weigh_snoc l m j a c (by simpa using h) (by simpa using k)
    rw [List.take_succ_cons, List.take_succ_cons, List.take_succ_cons, List.take_succ_cons]
    simp only [weighN] at ih ⊢
    omega
theorem weigh_min : ∀ (l : List Nat) (m : List Int), weighN (l.take (min l.length m.length)) (m.take (min l.length m.length)) = weighN l m
  | [], m => by simp [weighN]
  | a :: l, [] => by simp [weighN]
  | a :: l, c :: m => by
    have := weigh_min l m
    rw [List.length_cons, List.length_cons, Nat.succ_min_succ, List.take_succ_cons, List.take_succ_cons]
    simp only [weighN, this]
theorem weigh_le : ∀ (l : List Nat) (m : List Int) (B : Nat), (∀ x ∈ l, x < 256) → (∀ c ∈ m, c ≤ (B : Int)) → weighN l m ≤ l.length * (256 * B)
  | [], m, B, _, _ => by simp [weighN]
  | a :: l, [], B, _, _ => by simp [weighN]
  | a :: l, c :: m, B, h, k => by
    have ih := weigh_le l m B (fun x hx => h x (by simp [hx])) (fun x hx => k x (by simp [hx]))
    have h1 := h a (by simp)
    have h2 := k c (by simp)
    simp only [weighN, List.length_cons]
    have : a * c.toNat ≤ 256 * B := Nat.mul_le_mul (by omega) (by omega)
    rw [Nat.add_mul]
    omega
end Go.Proofs.Ytciejmlhdmjajaa
namespace Go.Proofs.Ytciejmlhdmjajaa
open Go.RowKit
set_option linter.unusedVariables false
set_option linter.unusedSimpArgs false

/-- All symbols' lengths. -/
def lensL (l : List Int) (m : Nat) : List Nat := (List.range l.length).map (lenS l m)
section
variable {α : Type}
def mrgF : Nat → List (Nat × α) → List (Nat × α) → List (Nat × α)
  | 0, A, B => A ++ B
  | f + 1, [], B => B
  | f + 1, a :: A, [] => a :: A
  | f + 1, a :: A, b :: B => if a.1 ≤ b.1 then a :: mrgF f A (b :: B) else b :: mrgF f (a :: A) B
theorem mrgF_eq : ∀ (f : Nat) (A B : List (Nat × α)), A.length + B.length ≤ f → mrgF f A B = mrg A B
  | 0, [], [], _ => by rw [mrg_nil]; rfl
  | 0, a :: A, B, h => by simp at h
  | 0, [], b :: B, h => by simp at h
  | f + 1, [], B, _ => by rw [mrg_nil]; rfl
  | f + 1, a :: A, [], _ => by rw [mrg_right]; rfl
  | f + 1, a :: A, b :: B, h => by
    simp only [List.length_cons] at h
    rw [mrg_cons, mrgF, mrgF_eq f A (b :: B) (by simp only [List.length_cons]; omega), mrgF_eq f (a :: A) B (by simp only [List.length_cons]; omega)]
def levF (node : α → α → α) (L : List (Nat × α)) : Nat → List (Nat × α)
  | 0 => L
  | j + 1 => mrgF 64 L (prs node (levF node L j))
theorem levF_eq (node : α → α → α) (L : List (Nat × α)) (h : L.length ≤ 20) : ∀ j, levF node L j = lev node L j
  | 0 => rfl
  | j + 1 => by
    have := lev_le node L j
    rw [levF, lev, levF_eq node L h j, mrgF_eq _ _ _ (by rw [prs_length]; omega)]
end
theorem lens_eval (l : List Int) (m : Nat) (S : List (Nat × Nat)) (hS : sortC l = S) (h2 : 2 ≤ S.length) (h20 : S.length ≤ 20) (s : Nat) :
    lenS l m s = tot (fun x => occ x.2 s) ((levF PT.node (S.map leafP) (m - 1)).take (2 * S.length - 2)) := by
  unfold lenS lensN lenOf
  rw [hS, if_neg (by omega), levF_eq _ _ (by simpa using h20), List.length_map]
theorem s1_ : sortC [1, 1, 2, 4] = [(1, 0), (1, 1), (2, 2), (4, 3)] := (sortC_of (List.Perm.refl _) (by decide)).symm
theorem s2_ : sortC [0, 5] = [(5, 1)] := (sortC_of (List.Perm.refl _) (by decide)).symm
theorem s3_ : sortC [1, 1, 1] = [(1, 0), (1, 1), (1, 2)] := (sortC_of (List.Perm.refl _) (by decide)).symm
theorem l1_ : lensL [1, 1, 2, 4] 15 = [3, 3, 2, 1] := by
  unfold lensL
  rw [List.map_congr_left (fun s _ => lens_eval _ _ _ s1_ (by decide) (by decide) s)]
  decide +kernel
theorem l2_ : lensL [1, 1, 2, 4] 2 = [2, 2, 2, 2] := by
  unfold lensL
  rw [List.map_congr_left (fun s _ => lens_eval _ _ _ s1_ (by decide) (by decide) s)]
  decide +kernel
theorem l3_ : lensL [0, 5] 1 = [0, 1] := by
  unfold lensL lenS
  rw [s2_]
  decide +kernel
/-- A row of counts. -/
def crow (l : List Int) : Obj := .cells (l.map fun n => Value.int .i64 n).toArray 3
theorem sl_crow {w : World} {g : Nat} {l : List Int} (h : w.heap[g]? = some (crow l)) : SlOf (Zn .i64) 1 w (some ⟨g, 0, none⟩) l := fun _ => by
  refine ⟨g, 0, rfl, lt_of h, fun i x hi j u hu => ?_⟩
  have hj : j = 0 := by
    have := (List.getElem?_eq_some_iff.1 hu).1
    simp [Zn] at this
    exact this
  subst hj
  unfold crow at h
  rw [cell_of h]
  simp [Zn] at hu
  subst hu
  simp [hi]
def brow (l : List Nat) : Obj := .cells (l.map fun (n : Nat) => Value.int .u8 (n : Int)).toArray 5
theorem sl_brow {w : World} {g : Nat} {l : List Nat} (h : w.heap[g]? = some (brow l)) : SlOf U8 1 w (some ⟨g, 0, none⟩) l := fun _ => by
  refine ⟨g, 0, rfl, lt_of h, fun i x hi j u hu => ?_⟩
  have hj : j = 0 := by
    have := (List.getElem?_eq_some_iff.1 hu).1
    simp [U8] at this
    exact this
  subst hj
  unfold brow at h
  rw [cell_of h]
  simp [U8] at hu
  subst hu
  simp [hi]
/-- pack.Lens's answer, as a list of lengths. -/
def Lensed (w w' : World) (l : List Int) (limit : Int) (e : Ending) : Prop :=
  Fr [] w w' ∧ (badP l limit ∧ e = .returned (.tuple #[.slice none 0 0, .int .i64 2]) ∨ ¬ badP l limit ∧ ∃ gl, e = .returned (.tuple #[.slice (some ⟨gl, 0, none⟩) l.length l.length, .int .i64 0]) ∧ w.heap.size ≤ gl ∧ Nrow w' gl 5 .u8 l.length (lenS l limit.toNat))
theorem Lensed.ok {w w' : World} {l : List Int} {limit : Int} {e : Ending} (h : Lensed w w' l limit e) (hb : ¬ badP l limit) : Fr [] w w' ∧ ∃ gl, e = .returned (.tuple #[.slice (some ⟨gl, 0, none⟩) l.length l.length, .int .i64 0]) ∧ w.heap.size ≤ gl ∧ Nrow w' gl 5 .u8 l.length (lenS l limit.toNat) := by
  obtain ⟨h1, ⟨h2, _⟩ | ⟨_, h3⟩⟩ := h
  · exact absurd h2 hb
  · exact ⟨h1, h3⟩
theorem Lensed.no {w w' : World} {l : List Int} {limit : Int} {e : Ending} (h : Lensed w w' l limit e) (hb : badP l limit) : Fr [] w w' ∧ e = .returned (.tuple #[.slice none 0 0, .int .i64 2]) := by
  obtain ⟨h1, ⟨_, h2⟩ | ⟨h2, _⟩⟩ := h
  · exact ⟨h1, h2⟩
  · exact absurd hb h2
theorem nrow_list {w : World} {g n : Nat} {F : Nat → Nat} {l : List Nat} (h : Nrow w g 5 .u8 n F) (hl : (List.range n).map F = l) : SlOf U8 1 w (some ⟨g, 0, none⟩) l := by rw [← hl]; exact sl_nrow h
theorem badC_not {l : List Int} (h1 : l.length ≤ 320) (h2 : ∀ x ∈ l, 0 ≤ x ∧ x ≤ 1073741824) : ¬ badC l := by
  rintro (h | ⟨x, hx, h⟩)
  · omega
  · have := h2 x hx; omega
theorem g1_ : ¬ badP [1, 1, 2, 4] 15 := by
  unfold badP; rw [s1_]
  rintro (h | h)
  · exact badC_not (by decide) (by decide) h
  · revert h; decide
theorem g2_ : ¬ badP [1, 1, 2, 4] 2 := by
  unfold badP; rw [s1_]
  rintro (h | h)
  · exact badC_not (by decide) (by decide) h
  · revert h; decide
theorem g3_ : ¬ badP [0, 5] 1 := by
  unfold badP; rw [s2_]
  rintro (h | h)
  · exact badC_not (by decide) (by decide) h
  · revert h; decide
theorem g4_ : badP [1, 1, 1] 1 := by
  unfold badP; rw [s3_]
  exact .inr (by decide)

theorem al_1 (g : Nat) (w : World) (h : w.heap[g]? = some (.cells #[.int .i64 1, .int .i64 1, .int .i64 2, .int .i64 4] 3 (0, 0))) :
    Calls Try.prog 27 #[.slice (some ⟨g, 0, none⟩) 4 4, .int .i64 15] w fun e w' => ∃ gl, e = .returned (.tuple #[.slice (some ⟨gl, 0, none⟩) 4 4, .int .i64 0]) ∧ SlOf U8 1 w' (some ⟨gl, 0, none⟩) [3, 3, 2, 1] ∧ gl < w'.heap.size ∧ Fr [] w w' :=
  (lens_any (some ⟨g, 0, none⟩) 4 [1, 1, 2, 4] 15 w (sl_crow h) (by decide) (by decide) (by decide)).mono fun e w' hh => by
    obtain ⟨h1, gl, h2, h3, h4⟩ := Lensed.ok hh g1_
    exact ⟨gl, h2, nrow_list h4 l1_, lt_of h4, h1⟩
theorem al_2 (g : Nat) (w : World) (h : w.heap[g]? = some (.cells #[.int .i64 1, .int .i64 1, .int .i64 2, .int .i64 4] 3 (0, 0))) :
    Calls Try.prog 27 #[.slice (some ⟨g, 0, none⟩) 4 4, .int .i64 2] w fun e w' => ∃ gl, e = .returned (.tuple #[.slice (some ⟨gl, 0, none⟩) 4 4, .int .i64 0]) ∧ SlOf U8 1 w' (some ⟨gl, 0, none⟩) [2, 2, 2, 2] ∧ gl < w'.heap.size ∧ Fr [] w w' :=
  (lens_any (some ⟨g, 0, none⟩) 4 [1, 1, 2, 4] 2 w (sl_crow h) (by decide) (by decide) (by decide)).mono fun e w' hh => by
    obtain ⟨h1, gl, h2, h3, h4⟩ := Lensed.ok hh g2_
    exact ⟨gl, h2, nrow_list h4 l2_, lt_of h4, h1⟩
theorem al_3 (g : Nat) (w : World) (h : w.heap[g]? = some (.cells #[.int .i64 0, .int .i64 5] 3 (0, 0))) :
    Calls Try.prog 27 #[.slice (some ⟨g, 0, none⟩) 2 2, .int .i64 1] w fun e w' => ∃ gl, e = .returned (.tuple #[.slice (some ⟨gl, 0, none⟩) 2 2, .int .i64 0]) ∧ SlOf U8 1 w' (some ⟨gl, 0, none⟩) [0, 1] ∧ gl < w'.heap.size ∧ Fr [] w w' :=
  (lens_any (some ⟨g, 0, none⟩) 2 [0, 5] 1 w (sl_crow h) (by decide) (by decide) (by decide)).mono fun e w' hh => by
    obtain ⟨h1, gl, h2, h3, h4⟩ := Lensed.ok hh g3_
    exact ⟨gl, h2, nrow_list h4 l3_, lt_of h4, h1⟩
theorem al_4 (g : Nat) (w : World) (h : w.heap[g]? = some (.cells #[.int .i64 1, .int .i64 1, .int .i64 1] 3 (0, 0))) :
    Calls Try.prog 27 #[.slice (some ⟨g, 0, none⟩) 3 3, .int .i64 1] w fun e w' => e = .returned (.tuple #[.slice none 0 0, .int .i64 2]) ∧ Fr [] w w' :=
  (lens_any (some ⟨g, 0, none⟩) 3 [1, 1, 1] 1 w (sl_crow h) (by decide) (by decide) (by decide)).mono fun e w' hh => by
    obtain ⟨h1, h2⟩ := Lensed.no hh g4_
    exact ⟨h2, h1⟩
theorem al_same (a b : Option Addr) (c d n : Nat) (l : List Nat) (w : World) (hn : l.length = n) (hl : SlOf U8 1 w a l) (hm : SlOf U8 1 w b l) (hll : l.length ≤ 1000) (h8 : ∀ x ∈ l, x < 256) :
    Calls Try.prog 14 #[.slice a n c, .slice b n d] w fun e w' => e = .returned (.bool true) ∧ Fr [] w w' := by
  subst hn
  exact (same_lens a b c d l l w hl hm (by omega) (by omega) h8 h8).mono fun e w' h => by simpa using h

end Go.Proofs.Ytciejmlhdmjajaa

