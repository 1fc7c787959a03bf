/- Some answers that the document fixes (alive), of layer 6. -/
import Derived.Test.YtmajacfcfdljeaaPi
namespace Go.Proofs.Ytmajacfcfdljeaa
open Go.RowKit
set_option linter.unusedVariables false
set_option linter.unusedSimpArgs false

/-- All symbols' lengths. -/
def lensL (l : List Int) (m : Nat) : List Nat := (List.range l.length).map (lenS l m)
section
variable {α : Type}
def mrgF : Nat → List (Nat × α) → List (Nat × α) → List (Nat × α)
  | 0, A, B => A ++ B
  | f + 1, [], B => B
  | f + 1, a :: A, [] => a :: A
  | f + 1, a :: A, b :: B => if a.1 ≤ b.1 then a :: mrgF f A (b :: B) else b :: mrgF f (a :: A) B
theorem mrgF_eq : ∀ (f : Nat) (A B : List (Nat × α)), A.length + B.length ≤ f → mrgF f A B = mrg A B
  | 0, [], [], _ => by rw [mrg_nil]; rfl
  | 0, a :: A, B, h => by simp at h
  | 0, [], b :: B, h => by simp at h
  | f + 1, [], B, _ => by rw [mrg_nil]; rfl
  | f + 1, a :: A, [], _ => by rw [mrg_right]; rfl
  | f + 1, a :: A, b :: B, h => by
    simp only [List.length_cons] at h
    rw [mrg_cons, mrgF, mrgF_eq f A (b :: B) (by simp only [List.length_cons]; omega), mrgF_eq f (a :: A) B (by simp only [List.length_cons]; omega)]
def levF (node : α → α → α) (L : List (Nat × α)) : Nat → List (Nat × α)
  | 0 => L
  | j + 1 => mrgF 64 L (prs node (levF node L j))
theorem levF_eq (node : α → α → α) (L : List (Nat × α)) (h : L.length ≤ 20) : ∀ j, levF node L j = lev node L j
  | 0 => rfl
  | j + 1 => by
    have := lev_le node L j
    rw [levF, lev, levF_eq node L h j, mrgF_eq _ _ _ (by rw [prs_length]; omega)]
end
theorem lens_eval (l : List Int) (m : Nat) (S : List (Nat × Nat)) (hS : sortC l = S) (h2 : 2 ≤ S.length) (h20 : S.length ≤ 20) (s : Nat) :
    lenS l m s = tot (fun x => occ x.2 s) ((levF PT.node (S.map leafP) (m - 1)).take (2 * S.length - 2)) := by
  unfold lenS lensN lenOf
  rw [hS, if_neg (by omega), levF_eq _ _ (by simpa using h20), List.length_map]
theorem s1_ : sortC [1, 1, 2, 4] = [(1, 0), (1, 1), (2, 2), (4, 3)] := (sortC_of (List.Perm.refl _) (by decide)).symm
theorem s2_ : sortC [0, 5] = [(5, 1)] := (sortC_of (List.Perm.refl _) (by decide)).symm
theorem s3_ : sortC [1, 1, 1] = [(1, 0), (1, 1), (1, 2)] := (sortC_of (List.Perm.refl _) (by decide)).symm
theorem l1_ : lensL [1, 1, 2, 4] 15 = [3, 3, 2, 1] := by
  unfold lensL
  rw [List.map_congr_left (fun s _ => lens_eval _ _ _ s1_ (by decide) (by decide) s)]
  decide +kernel
theorem l2_ : lensL [1, 1, 2, 4] 2 = [2, 2, 2, 2] := by
  unfold lensL
  rw [List.map_congr_left (fun s _ => lens_eval _ _ _ s1_ (by decide) (by decide) s)]
  decide +kernel
theorem l3_ : lensL [0, 5] 1 = [0, 1] := by
  unfold lensL lenS
  rw [s2_]
  decide +kernel
/-- A row of counts. -/
def crow (l : List Int) : Obj := .cells (l.map fun n => Value.int .i64 n).toArray 3
theorem sl_crow {w : World} {g : Nat} {l : List Int} (h : w.heap[g]? = some (crow l)) : SlOf (Zn .i64) 1 w (some ⟨g, 0, none⟩) l := fun _ => by
  refine ⟨g, 0, rfl, lt_of h, fun i x hi j u hu => ?_⟩
  have hj : j = 0 := by
    have := (List.getElem?_eq_some_iff.1 hu).1
    simp [Zn] at this
    exact this
  subst hj
  unfold crow at h
  rw [cell_of h]
  simp [Zn] at hu
  subst hu
  simp [hi]
def brow (l : List Nat) : Obj := .cells (l.map fun (n : Nat) => Value.int .u8 (n : Int)).toArray 5
theorem sl_brow {w : World} {g : Nat} {l : List Nat} (h : w.heap[g]? = some (brow l)) : SlOf U8 1 w (some ⟨g, 0, none⟩) l := fun _ => by
  refine ⟨g, 0, rfl, lt_of h, fun i x hi j u hu => ?_⟩
  have hj : j = 0 := by
    have := (List.getElem?_eq_some_iff.1 hu).1
    simp [U8] at this
    exact this
  subst hj
  unfold brow at h
  rw [cell_of h]
  simp [U8] at hu
  subst hu
  simp [hi]
/-- pack.Lens's answer, as a list of lengths. -/
def Lensed (w w' : World) (l : List Int) (limit : Int) (e : Ending) : Prop :=
  Fr [] w w' ∧ (badP l limit ∧ e = .returned (.tuple #[.slice none 0 0, .int .i64 2]) ∨ ¬ badP l limit ∧ ∃ gl, e = .returned (.tuple #[.slice (some ⟨gl, 0, none⟩) l.length l.length, .int .i64 0]) ∧ w.heap.size ≤ gl ∧ Nrow w' gl 5 .u8 l.length (lenS l limit.toNat))
theorem Lensed.ok {w w' : World} {l : List Int} {limit : Int} {e : Ending} (h : Lensed w w' l limit e) (hb : ¬ badP l limit) : Fr [] w w' ∧ ∃ gl, e = .returned (.tuple #[.slice (some ⟨gl, 0, none⟩) l.length l.length, .int .i64 0]) ∧ w.heap.size ≤ gl ∧ Nrow w' gl 5 .u8 l.length (lenS l limit.toNat) := by
  obtain ⟨h1, ⟨h2, _⟩ | ⟨_, h3⟩⟩ := h
  · exact absurd h2 hb
  · exact ⟨h1, h3⟩
theorem Lensed.no {w w' : World} {l : List Int} {limit : Int} {e : Ending} (h : Lensed w w' l limit e) (hb : badP l limit) : Fr [] w w' ∧ e = .returned (.tuple #[.slice none 0 0, .int .i64 2]) := by
  obtain ⟨h1, ⟨_, h2⟩ | ⟨h2, _⟩⟩ := h
  · exact ⟨h1, h2⟩
  · exact absurd hb h2
theorem nrow_list {w : World} {g n : Nat} {F : Nat → Nat} {l : List Nat} (h : Nrow w g 5 .u8 n F) (hl : (List.range n).map F = l) : SlOf U8 1 w (some ⟨g, 0, none⟩) l := by rw [← hl]; exact sl_nrow h
theorem badC_not {l : List Int} (h1 : l.length ≤ 320) (h2 : ∀ x ∈ l, 0 ≤ x ∧ x ≤ 1073741824) : ¬ badC l := by
  rintro (h | ⟨x, hx, h⟩)
  · omega
  · have := h2 x hx; omega
theorem g1_ : ¬ badP [1, 1, 2, 4] 15 := by
  unfold badP; rw [s1_]
  rintro (h | h)
  · exact badC_not (by decide) (by decide) h
  · revert h; decide
theorem g2_ : ¬ badP [1, 1, 2, 4] 2 := by
  unfold badP; rw [s1_]
  rintro (h | h)
  · exact badC_not (by decide) (by decide) h
  · revert h; decide
theorem g3_ : ¬ badP [0, 5] 1 := by
  unfold badP; rw [s2_]
  rintro (h | h)
  · exact badC_not (by decide) (by decide) h
  · revert h; decide
theorem g4_ : badP [1, 1, 1] 1 := by
  unfold badP; rw [s3_]
  exact .inr (by decide)

theorem al_1 (g : Nat) (w : World) (h : w.heap[g]? = some (.cells #[.int .i64 1, .int .i64 1, .int .i64 2, .int .i64 4] 3 (0, 0))) :
    Calls Try.prog 9 #[.slice (some ⟨g, 0, none⟩) 4 4, .int .i64 15] w fun e w' => ∃ gl, e = .returned (.tuple #[.slice (some ⟨gl, 0, none⟩) 4 4, .int .i64 0]) ∧ SlOf U8 1 w' (some ⟨gl, 0, none⟩) [3, 3, 2, 1] ∧ gl < w'.heap.size ∧ Fr [] w w' :=
  (lens_any (some ⟨g, 0, none⟩) 4 [1, 1, 2, 4] 15 w (sl_crow h) (by decide) (by decide) (by decide)).mono fun e w' hh => by
    obtain ⟨h1, gl, h2, h3, h4⟩ := Lensed.ok hh g1_
    exact ⟨gl, h2, nrow_list h4 l1_, lt_of h4, h1⟩
theorem al_2 (g : Nat) (w : World) (h : w.heap[g]? = some (.cells #[.int .i64 1, .int .i64 1, .int .i64 2, .int .i64 4] 3 (0, 0))) :
    Calls Try.prog 9 #[.slice (some ⟨g, 0, none⟩) 4 4, .int .i64 2] w fun e w' => ∃ gl, e = .returned (.tuple #[.slice (some ⟨gl, 0, none⟩) 4 4, .int .i64 0]) ∧ SlOf U8 1 w' (some ⟨gl, 0, none⟩) [2, 2, 2, 2] ∧ gl < w'.heap.size ∧ Fr [] w w' :=
  (lens_any (some ⟨g, 0, none⟩) 4 [1, 1, 2, 4] 2 w (sl_crow h) (by decide) (by decide) (by decide)).mono fun e w' hh => by
    obtain ⟨h1, gl, h2, h3, h4⟩ := Lensed.ok hh g2_
    exact ⟨gl, h2, nrow_list h4 l2_, lt_of h4, h1⟩
theorem al_3 (g : Nat) (w : World) (h : w.heap[g]? = some (.cells #[.int .i64 0, .int .i64 5] 3 (0, 0))) :
    Calls Try.prog 9 #[.slice (some ⟨g, 0, none⟩) 2 2, .int .i64 1] w fun e w' => ∃ gl, e = .returned (.tuple #[.slice (some ⟨gl, 0, none⟩) 2 2, .int .i64 0]) ∧ SlOf U8 1 w' (some ⟨gl, 0, none⟩) [0, 1] ∧ gl < w'.heap.size ∧ Fr [] w w' :=
  (lens_any (some ⟨g, 0, none⟩) 2 [0, 5] 1 w (sl_crow h) (by decide) (by decide) (by decide)).mono fun e w' hh => by
    obtain ⟨h1, gl, h2, h3, h4⟩ := Lensed.ok hh g3_
    exact ⟨gl, h2, nrow_list h4 l3_, lt_of h4, h1⟩
theorem al_4 (g : Nat) (w : World) (h : w.heap[g]? = some (.cells #[.int .i64 1, .int .i64 1, .int .i64 1] 3 (0, 0))) :
    Calls Try.prog 9 #[.slice (some ⟨g, 0, none⟩) 3 3, .int .i64 1] w fun e w' => e = .returned (.tuple #[.slice none 0 0, .int .i64 2]) ∧ Fr [] w w' :=
  (lens_any (some ⟨g, 0, none⟩) 3 [1, 1, 1] 1 w (sl_crow h) (by decide) (by decide) (by decide)).mono fun e w' hh => by
    obtain ⟨h1, h2⟩ := Lensed.no hh g4_
    exact ⟨h2, h1⟩
theorem al_same (a b : Option Addr) (c d n : Nat) (l : List Nat) (w : World) (hn : l.length = n) (hl : SlOf U8 1 w a l) (hm : SlOf U8 1 w b l) (hll : l.length ≤ 1000) (h8 : ∀ x ∈ l, x < 256) :
    Calls Try.prog 11 #[.slice a n c, .slice b n d] w fun e w' => e = .returned (.bool true) ∧ Fr [] w w' := by
  subst hn
  exact (same_lens a b c d l l w hl hm (by omega) (by omega) h8 h8).mono fun e w' h => by simpa using h

set_option maxRecDepth 2000000 in
set_option maxHeartbeats 3200000 in
theorem alive_any (w : World) : Calls Try.prog 8 #[] w fun e w' => e = .returned (.bool true) ∧ Fr [] w w' := by
  have H0 := Lib.hid (new_of w (.cells #[.int .i64 1, .int .i64 1, .int .i64 2, .int .i64 4] 3))
  have HN := Lib.hid (fun W => needs_any 3 W (by omega) (by omega))
  rw [show needN 3 = 2 by decide] at HN
  go_enter Try.func8, Try.ntmps8
  go_wp2_with fail
  refine (al_1 _ _ H0.out).mono ?_
  rintro e w1 ⟨g1, rfl, hs1, hl1, f1⟩
  have F1 := Lib.hid ((Fr.alloc [] _ _).trans f1)
  have S1 := Lib.hid hs1
  have H1 := Lib.hid (new_of w1 (.cells #[.int .i64 1, .int .i64 1, .int .i64 2, .int .i64 4] 3))
  clear f1 hs1 H0
  go_wp2_with fail
  refine (al_2 _ _ H1.out).mono ?_
  rintro e w2 ⟨g2, rfl, hs2, hl2, f2⟩
  have F2 := Lib.hid ((Fr.alloc [] _ _).trans f2)
  have S2 := Lib.hid hs2
  have H2 := Lib.hid (new_of w2 (.cells #[.int .i64 0, .int .i64 5] 3))
  clear f2 hs2 H1
  go_wp2_with fail
  refine (al_3 _ _ H2.out).mono ?_
  rintro e w3 ⟨g3, rfl, hs3, hl3, f3⟩
  have F3 := Lib.hid ((Fr.alloc [] _ _).trans f3)
  have S3 := Lib.hid hs3
  have H3 := Lib.hid (new_of w3 (.cells #[.int .i64 1, .int .i64 1, .int .i64 1] 3))
  clear f3 hs3 H2
  go_wp2_with fail
  refine (al_4 _ _ H3.out).mono ?_
  rintro e w4 ⟨rfl, f4⟩
  have F4 := Lib.hid ((Fr.alloc [] _ _).trans f4)
  have H4 := Lib.hid (new_of w4 (brow [3, 3, 2, 1]))
  clear f4 H3 hl1 hl2 hl3
  go_wp2_with fail
  refine (al_same _ _ _ _ 4 [3, 3, 2, 1] _ rfl (S1.out.below (F2.out.trans (F3.out.trans (F4.out.trans (Fr.alloc [] _ _)))).below) (sl_brow H4.out) (by decide) (by decide)).mono ?_
  rintro e w5 ⟨rfl, f5⟩
  have F5 := Lib.hid ((Fr.alloc [] _ _).trans f5)
  have H5 := Lib.hid (new_of w5 (brow [2, 2, 2, 2]))
  clear f5 H4
  go_wp2_with fail
  refine (al_same _ _ _ _ 4 [2, 2, 2, 2] _ rfl (S2.out.below (F3.out.trans (F4.out.trans (F5.out.trans (Fr.alloc [] _ _)))).below) (sl_brow H5.out) (by decide) (by decide)).mono ?_
  rintro e w6 ⟨rfl, f6⟩
  have F6 := Lib.hid ((Fr.alloc [] _ _).trans f6)
  have H6 := Lib.hid (new_of w6 (brow [0, 1]))
  clear f6 H5
  go_wp2_with fail
  refine (al_same _ _ _ _ 2 [0, 1] _ rfl (S3.out.below (F4.out.trans (F5.out.trans (F6.out.trans (Fr.alloc [] _ _)))).below) (sl_brow H6.out) (by decide) (by decide)).mono ?_
  rintro e w7 ⟨rfl, f7⟩
  have F7 := Lib.hid ((Fr.alloc [] _ _).trans f7)
  clear f7 H6
  go_wp2_with fail
  refine (HN.out _).mono ?_
  rintro e w8 ⟨rfl, hw⟩
  replace hw := hw.symm
  subst hw
  go_wp2_with fail
  go_ret
  exact ⟨rfl, F1.out.trans (F2.out.trans (F3.out.trans (F4.out.trans (F5.out.trans (F6.out.trans F7.out)))))⟩
end Go.Proofs.Ytmajacfcfdljeaa
