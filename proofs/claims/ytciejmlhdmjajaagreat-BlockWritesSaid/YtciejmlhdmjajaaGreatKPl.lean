/- Some answers that the document fixes (alive), of layer 6. What lengths are: whole, no longer than the limit, falling with the counts, and of the least weight. PackWhole: its walk. -/
import Derived.Test.YtciejmlhdmjajaaGreatKHa
import Derived.Test.YtciejmlhdmjajaaGreatKHe
import Derived.Test.YtciejmlhdmjajaaGreatKPi
import Derived.Deep.OwnRows
namespace Go.Proofs.YtciejmlhdmjajaaGreat
open Go.RowKit
set_option linter.unusedVariables false
set_option linter.unusedSimpArgs false

/-- All symbols' lengths. -/
def lensL (l : List Int) (m : Nat) : List Nat := (List.range l.length).map (lenS l m)
section
variable {α : Type}
def mrgF : Nat → List (Nat × α) → List (Nat × α) → List (Nat × α)
  | 0, A, B => A ++ B
  | f + 1, [], B => B
  | f + 1, a :: A, [] => a :: A
  | f + 1, a :: A, b :: B => if a.1 ≤ b.1 then a :: mrgF f A (b :: B) else b :: mrgF f (a :: A) B
theorem mrgF_eq : ∀ (f : Nat) (A B : List (Nat × α)), A.length + B.length ≤ f → mrgF f A B = mrg A B
  | 0, [], [], _ => by rw [mrg_nil]; rfl
  | 0, a :: A, B, h => by simp at h
  | 0, [], b :: B, h => by simp at h
  | f + 1, [], B, _ => by rw [mrg_nil]; rfl
  | f + 1, a :: A, [], _ => by rw [mrg_right]; rfl
  | f + 1, a :: A, b :: B, h => by
    simp only [List.length_cons] at h
    rw [mrg_cons, mrgF, mrgF_eq f A (b :: B) (by simp only [List.length_cons]; omega), mrgF_eq f (a :: A) B (by simp only [List.length_cons]; omega)]
def levF (node : α → α → α) (L : List (Nat × α)) : Nat → List (Nat × α)
  | 0 => L
  | j + 1 => mrgF 64 L (prs node (levF node L j))
theorem levF_eq (node : α → α → α) (L : List (Nat × α)) (h : L.length ≤ 20) : ∀ j, levF node L j = lev node L j
  | 0 => rfl
  | j + 1 => by
    have := lev_le node L j
    rw [levF, lev, levF_eq node L h j, mrgF_eq _ _ _ (by rw [prs_length]; omega)]
end
theorem lens_eval (l : List Int) (m : Nat) (S : List (Nat × Nat)) (hS : sortC l = S) (h2 : 2 ≤ S.length) (h20 : S.length ≤ 20) (s : Nat) :
    lenS l m s = tot (fun x => occ x.2 s) ((levF PT.node (S.map leafP) (m - 1)).take (2 * S.length - 2)) := by
  unfold lenS lensN lenOf
  rw [hS, if_neg (by omega), levF_eq _ _ (by simpa using h20), List.length_map]
theorem s1_ : sortC [1, 1, 2, 4] = [(1, 0), (1, 1), (2, 2), (4, 3)] := (sortC_of (List.Perm.refl _) (by decide)).symm
theorem s2_ : sortC [0, 5] = [(5, 1)] := (sortC_of (List.Perm.refl _) (by decide)).symm
theorem s3_ : sortC [1, 1, 1] = [(1, 0), (1, 1), (1, 2)] := (sortC_of (List.Perm.refl _) (by decide)).symm
theorem l1_ : lensL [1, 1, 2, 4] 15 = [3, 3, 2, 1] := by
  unfold lensL
  rw [List.map_congr_left (fun s _ => lens_eval _ _ _ s1_ (by decide) (by decide) s)]
  decide +kernel
theorem l2_ : lensL [1, 1, 2, 4] 2 = [2, 2, 2, 2] := by
  unfold lensL
  rw [List.map_congr_left (fun s _ => lens_eval _ _ _ s1_ (by decide) (by decide) s)]
  decide +kernel
theorem l3_ : lensL [0, 5] 1 = [0, 1] := by
  unfold lensL lenS
  rw [s2_]
  decide +kernel
/-- A row of counts. -/
def crow (l : List Int) : Obj := .cells (l.map fun n => Value.int .i64 n).toArray 3
theorem sl_crow {w : World} {g : Nat} {l : List Int} (h : w.heap[g]? = some (crow l)) : SlOf (Zn .i64) 1 w (some ⟨g, 0, none⟩) l := fun _ => by
  refine ⟨g, 0, rfl, lt_of h, fun i x hi j u hu => ?_⟩
  have hj : j = 0 := by
    have := (List.getElem?_eq_some_iff.1 hu).1
    simp [Zn] at this
    exact this
  subst hj
  unfold crow at h
  rw [cell_of h]
  simp [Zn] at hu
  subst hu
  simp [hi]
def brow (l : List Nat) : Obj := .cells (l.map fun (n : Nat) => Value.int .u8 (n : Int)).toArray 5
theorem sl_brow {w : World} {g : Nat} {l : List Nat} (h : w.heap[g]? = some (brow l)) : SlOf U8 1 w (some ⟨g, 0, none⟩) l := fun _ => by
  refine ⟨g, 0, rfl, lt_of h, fun i x hi j u hu => ?_⟩
  have hj : j = 0 := by
    have := (List.getElem?_eq_some_iff.1 hu).1
    simp [U8] at this
    exact this
  subst hj
  unfold brow at h
  rw [cell_of h]
  simp [U8] at hu
  subst hu
  simp [hi]
/-- pack.Lens's answer, as a list of lengths. -/
def Lensed (w w' : World) (l : List Int) (limit : Int) (e : Ending) : Prop :=
  Fr [] w w' ∧ (badP l limit ∧ e = .returned (.tuple #[.slice none 0 0, .int .i64 2]) ∨ ¬ badP l limit ∧ ∃ gl, e = .returned (.tuple #[.slice (some ⟨gl, 0, none⟩) l.length l.length, .int .i64 0]) ∧ w.heap.size ≤ gl ∧ Nrow w' gl 5 .u8 l.length (lenS l limit.toNat))
theorem Lensed.ok {w w' : World} {l : List Int} {limit : Int} {e : Ending} (h : Lensed w w' l limit e) (hb : ¬ badP l limit) : Fr [] w w' ∧ ∃ gl, e = .returned (.tuple #[.slice (some ⟨gl, 0, none⟩) l.length l.length, .int .i64 0]) ∧ w.heap.size ≤ gl ∧ Nrow w' gl 5 .u8 l.length (lenS l limit.toNat) := by
  obtain ⟨h1, ⟨h2, _⟩ | ⟨_, h3⟩⟩ := h
  · exact absurd h2 hb
  · exact ⟨h1, h3⟩
theorem Lensed.no {w w' : World} {l : List Int} {limit : Int} {e : Ending} (h : Lensed w w' l limit e) (hb : badP l limit) : Fr [] w w' ∧ e = .returned (.tuple #[.slice none 0 0, .int .i64 2]) := by
  obtain ⟨h1, ⟨_, h2⟩ | ⟨h2, _⟩⟩ := h
  · exact ⟨h1, h2⟩
  · exact absurd hb h2
theorem nrow_list {w : World} {g n : Nat} {F : Nat → Nat} {l : List Nat} (h : Nrow w g 5 .u8 n F) (hl : (List.range n).map F = l) : SlOf U8 1 w (some ⟨g, 0, none⟩) l := by rw [← hl]; exact sl_nrow h
theorem badC_not {l : List Int} (h1 : l.length ≤ 320) (h2 : ∀ x ∈ l, 0 ≤ x ∧ x ≤ 1073741824) : ¬ badC l := by
  rintro (h | ⟨x, hx, h⟩)
  · omega
  · have := h2 x hx; omega
theorem g1_ : ¬ badP [1, 1, 2, 4] 15 := by
  unfold badP; rw [s1_]
  rintro (h | h)
  · exact badC_not (by decide) (by decide) h
  · revert h; decide
theorem g2_ : ¬ badP [1, 1, 2, 4] 2 := by
  unfold badP; rw [s1_]
  rintro (h | h)
  · exact badC_not (by decide) (by decide) h
  · revert h; decide
theorem g3_ : ¬ badP [0, 5] 1 := by
  unfold badP; rw [s2_]
  rintro (h | h)
  · exact badC_not (by decide) (by decide) h
  · revert h; decide
theorem g4_ : badP [1, 1, 1] 1 := by
  unfold badP; rw [s3_]
  exact .inr (by decide)

theorem al_1 (g : Nat) (w : World) (h : w.heap[g]? = some (.cells #[.int .i64 1, .int .i64 1, .int .i64 2, .int .i64 4] 3 (0, 0))) :
    Calls Tryz.prog 38 #[.slice (some ⟨g, 0, none⟩) 4 4, .int .i64 15] w fun e w' => ∃ gl, e = .returned (.tuple #[.slice (some ⟨gl, 0, none⟩) 4 4, .int .i64 0]) ∧ SlOf U8 1 w' (some ⟨gl, 0, none⟩) [3, 3, 2, 1] ∧ gl < w'.heap.size ∧ Fr [] w w' :=
  (lens_any (some ⟨g, 0, none⟩) 4 [1, 1, 2, 4] 15 w (sl_crow h) (by decide) (by decide) (by decide)).mono fun e w' hh => by
    obtain ⟨h1, gl, h2, h3, h4⟩ := Lensed.ok hh g1_
    exact ⟨gl, h2, nrow_list h4 l1_, lt_of h4, h1⟩
theorem al_2 (g : Nat) (w : World) (h : w.heap[g]? = some (.cells #[.int .i64 1, .int .i64 1, .int .i64 2, .int .i64 4] 3 (0, 0))) :
    Calls Tryz.prog 38 #[.slice (some ⟨g, 0, none⟩) 4 4, .int .i64 2] w fun e w' => ∃ gl, e = .returned (.tuple #[.slice (some ⟨gl, 0, none⟩) 4 4, .int .i64 0]) ∧ SlOf U8 1 w' (some ⟨gl, 0, none⟩) [2, 2, 2, 2] ∧ gl < w'.heap.size ∧ Fr [] w w' :=
  (lens_any (some ⟨g, 0, none⟩) 4 [1, 1, 2, 4] 2 w (sl_crow h) (by decide) (by decide) (by decide)).mono fun e w' hh => by
    obtain ⟨h1, gl, h2, h3, h4⟩ := Lensed.ok hh g2_
    exact ⟨gl, h2, nrow_list h4 l2_, lt_of h4, h1⟩
theorem al_3 (g : Nat) (w : World) (h : w.heap[g]? = some (.cells #[.int .i64 0, .int .i64 5] 3 (0, 0))) :
    Calls Tryz.prog 38 #[.slice (some ⟨g, 0, none⟩) 2 2, .int .i64 1] w fun e w' => ∃ gl, e = .returned (.tuple #[.slice (some ⟨gl, 0, none⟩) 2 2, .int .i64 0]) ∧ SlOf U8 1 w' (some ⟨gl, 0, none⟩) [0, 1] ∧ gl < w'.heap.size ∧ Fr [] w w' :=
  (lens_any (some ⟨g, 0, none⟩) 2 [0, 5] 1 w (sl_crow h) (by decide) (by decide) (by decide)).mono fun e w' hh => by
    obtain ⟨h1, gl, h2, h3, h4⟩ := Lensed.ok hh g3_
    exact ⟨gl, h2, nrow_list h4 l3_, lt_of h4, h1⟩
theorem al_4 (g : Nat) (w : World) (h : w.heap[g]? = some (.cells #[.int .i64 1, .int .i64 1, .int .i64 1] 3 (0, 0))) :
    Calls Tryz.prog 38 #[.slice (some ⟨g, 0, none⟩) 3 3, .int .i64 1] w fun e w' => e = .returned (.tuple #[.slice none 0 0, .int .i64 2]) ∧ Fr [] w w' :=
  (lens_any (some ⟨g, 0, none⟩) 3 [1, 1, 1] 1 w (sl_crow h) (by decide) (by decide) (by decide)).mono fun e w' hh => by
    obtain ⟨h1, h2⟩ := Lensed.no hh g4_
    exact ⟨h2, h1⟩
end Go.Proofs.YtciejmlhdmjajaaGreat
namespace Go.Proofs.YtciejmlhdmjajaaGreat
open Go.RowKit
set_option linter.unusedVariables false
set_option linter.unusedSimpArgs false

theorem range_cons (n : Nat) : List.range (n + 1) = 0 :: (List.range n).map (· + 1) := List.range_succ_eq_map
/-- A sum over all symbols, of what is none where nothing counts. -/
theorem tot_cntL (h : Nat → Nat) : ∀ (xs : List Int) (s : Nat), (∀ i c, xs[i]? = some c → ¬ 0 < c → h (s + i) = 0) → tot (fun i => h (s + i)) (List.range xs.length) = tot (fun p : Nat × Nat => h p.2) (cntL s xs)
  | [], s, _ => rfl
  | c :: xs, s, hz => by
    have ih := tot_cntL h xs (s + 1) fun i d hd hn => by
      have := hz (i + 1) d (by simpa using hd) hn
      rwa [show s + 1 + i = s + (i + 1) by omega]
    rw [List.length_cons, range_cons]
    simp only [tot]
    rw [tot_map, tot_congr _ (fun i => h (s + 1 + i)) _ (fun i _ => by rw [show s + (i + 1) = s + 1 + i by omega]), ih, cntL]
    by_cases hc : 0 < c
    · rw [if_pos hc]; simp only [tot]; rw [Nat.add_zero]
    · rw [if_neg hc, Nat.add_zero]
      have := hz 0 c rfl hc
      rw [Nat.add_zero] at this
      rw [this, Nat.zero_add]
theorem tot_sortC (l : List Int) (h : Nat → Nat) (hz : ∀ i c, l[i]? = some c → ¬ 0 < c → h i = 0) : tot h (List.range l.length) = tot (fun p : Nat × Nat => h p.2) (sortC l) := by
  rw [tot_perm _ (sortC_perm l), ← tot_cntL h l 0 (by simpa using hz)]
  exact tot_congr _ _ _ fun i _ => by rw [Nat.zero_add]
theorem weigh_cntL (F : Nat → Nat) : ∀ (xs : List Int) (s : Nat), weighN ((List.range xs.length).map fun i => F (s + i)) xs = tot (fun p : Nat × Nat => p.1 * F p.2) (cntL s xs)
  | [], s => rfl
  | c :: xs, s => by
    have ih := weigh_cntL F xs (s + 1)
    rw [List.length_cons, range_cons, List.map_cons, List.map_map]
    have e : (List.range xs.length).map ((fun i => F (s + i)) ∘ (· + 1)) = (List.range xs.length).map fun i => F (s + 1 + i) := List.map_congr_left fun i _ => by simp only [Function.comp]; rw [show s + (i + 1) = s + 1 + i by omega]
    rw [e, weighN, ih, cntL, Nat.add_zero]
    by_cases hc : 0 < c
    · rw [if_pos hc]; simp only [tot]; rw [Nat.mul_comm]
    · rw [if_neg hc, show c.toNat = 0 by omega, Nat.mul_zero, Nat.zero_add]
theorem weigh_sortC (l : List Int) (F : Nat → Nat) : weighN ((List.range l.length).map F) l = tot (fun p : Nat × Nat => p.1 * F p.2) (sortC l) := by
  rw [tot_perm _ (sortC_perm l), ← weigh_cntL F l 0]
  congr 1
  exact List.map_congr_left fun i _ => by rw [Nat.zero_add]
theorem needN_le {n m : Nat} (h : needN (n : Int) ≤ m) : n ≤ 2 ^ m := need_room h

/-- What package-merge finds, by the symbols that count. -/
theorem lens_pm (l : List Int) (m : Nat) (h1 : 1 ≤ m) (hr : (sortC l).length ≤ 2 ^ m) (h2 : 2 ≤ (sortC l).length) :
    (∀ p ∈ sortC l, 1 ≤ lenS l m p.2 ∧ lenS l m p.2 ≤ m) ∧
    (∀ s, (∀ p ∈ sortC l, s ≠ p.2) → lenS l m s = 0) ∧
    (∀ p ∈ sortC l, ∀ q ∈ sortC l, p.1 < q.1 → lenS l m q.2 ≤ lenS l m p.2) ∧
    tot (fun p : Nat × Nat => 2 ^ (m - lenS l m p.2)) (sortC l) = 2 ^ m ∧
    ∀ ℓ : Nat → Nat, (∀ p ∈ sortC l, 1 ≤ ℓ p.2 ∧ ℓ p.2 ≤ m) → tot (fun p : Nat × Nat => 2 ^ (m - ℓ p.2)) (sortC l) = 2 ^ m → tot (fun p : Nat × Nat => p.1 * lenS l m p.2) (sortC l) ≤ tot (fun p : Nat × Nat => p.1 * ℓ p.2) (sortC l) := by
  obtain ⟨j, rfl⟩ : ∃ j, m = j + 1 := ⟨m - 1, by omega⟩
  obtain ⟨p1, p2, p3, p4, p5, p6⟩ := pm symP PT.node occ (fun _ _ _ => rfl) ((sortC l).map leafP) (occ_leafP _) (sortC_srt l) (sortC_dst l) j (by simpa using h2) (by simpa using hr)
  have e : ∀ s, lenS l (j + 1) s = lenOf PT.node occ ((sortC l).map leafP) j s := fun s => by unfold lenS lensN; rw [if_neg (by omega), Nat.add_sub_cancel]
  have hmem : ∀ p ∈ sortC l, leafP p ∈ (sortC l).map leafP := fun p hp => List.mem_map.2 ⟨p, hp, rfl⟩
  simp only [e]
  refine ⟨fun p hp => p2 _ (hmem p hp), fun s hs => p3 s fun x hx => ?_, fun p hp q hq hpq => p4 _ (hmem p hp) _ (hmem q hq) hpq, ?_, fun ℓ hℓ hw => ?_⟩
  · obtain ⟨p, hp, rfl⟩ := List.mem_map.1 hx
    exact hs p hp
  · rw [tot_map] at p5; exact p5
  · have := p6 ℓ (fun x hx => by
      obtain ⟨p, hp, rfl⟩ := List.mem_map.1 hx
      exact hℓ p hp) (by rw [tot_map]; exact hw)
    rw [tot_map, tot_map] at this
    exact this
theorem counts_mem {l : List Int} {s : Nat} : (∃ p ∈ sortC l, s = p.2) ↔ ∃ c, l[s]? = some c ∧ 0 < c := by
  constructor
  · rintro ⟨p, hp, rfl⟩
    obtain ⟨c, h1, h2, _⟩ := (sortC_mem l p).1 hp
    exact ⟨c, h1, h2⟩
  · rintro ⟨c, h1, h2⟩
    exact ⟨(c.toNat, s), (sortC_mem l _).2 ⟨c, h1, h2, rfl⟩, rfl⟩
theorem few_len (l : List Int) (m s : Nat) (h : (sortC l).length < 2) : lenS l m s = if ∃ c, l[s]? = some c ∧ 0 < c then 1 else 0 := by
  unfold lenS
  rw [if_pos h]
  rcases (show (sortC l).length = 0 ∨ (sortC l).length = 1 by omega) with h0 | h0
  · have e := List.eq_nil_of_length_eq_zero h0
    rw [if_neg (fun hc => by obtain ⟨p, hp, _⟩ := counts_mem.2 hc; rw [e] at hp; simp at hp), e]; rfl
  · obtain ⟨p, hp⟩ := List.length_eq_one_iff.1 h0
    rw [hp]
    simp only [tot]
    by_cases hs : s = p.2
    · rw [if_pos hs, if_pos (counts_mem.1 ⟨p, by rw [hp]; simp, hs⟩)]
    · rw [if_neg hs, if_neg (fun hc => by obtain ⟨q, hq, he⟩ := counts_mem.2 hc; rw [hp] at hq; simp at hq; subst hq; exact hs he)]
theorem lens_fits (l : List Int) (m : Nat) (h1 : 1 ≤ m) (hr : (sortC l).length ≤ 2 ^ m) (s : Nat) : lenS l m s ≤ m := by
  rcases Nat.lt_or_ge (sortC l).length 2 with h2 | h2
  · rw [few_len l m s h2]; split <;> omega
  · obtain ⟨q1, q2, _⟩ := lens_pm l m h1 hr h2
    by_cases hs : ∃ p ∈ sortC l, s = p.2
    · obtain ⟨p, hp, rfl⟩ := hs
      exact (q1 p hp).2
    · rw [q2 s fun p hp he => hs ⟨p, hp, he⟩]; omega
theorem lens_pos (l : List Int) (m : Nat) (h1 : 1 ≤ m) (hr : (sortC l).length ≤ 2 ^ m) (s : Nat) : 0 < lenS l m s ↔ ∃ c, l[s]? = some c ∧ 0 < c := by
  rcases Nat.lt_or_ge (sortC l).length 2 with h2 | h2
  · rw [few_len l m s h2]; split <;> simp_all
  · obtain ⟨q1, q2, _⟩ := lens_pm l m h1 hr h2
    rw [← counts_mem]
    constructor
    · intro h
      apply Classical.byContradiction
      intro hs
      rw [q2 s fun p hp he => hs ⟨p, hp, he⟩] at h
      omega
    · rintro ⟨p, hp, rfl⟩
      exact (q1 p hp).1
theorem lens_falls (l : List Int) (m : Nat) (h1 : 1 ≤ m) (hr : (sortC l).length ≤ 2 ^ m) (i k : Nat) (c d : Int) (hi : l[i]? = some c) (hk : l[k]? = some d) (h0 : 0 < d) (hcd : d < c) : lenS l m i ≤ lenS l m k := by
  have mi : (c.toNat, i) ∈ sortC l := (sortC_mem l _).2 ⟨c, hi, by omega, rfl⟩
  have mk : (d.toNat, k) ∈ sortC l := (sortC_mem l _).2 ⟨d, hk, h0, rfl⟩
  rcases Nat.lt_or_ge (sortC l).length 2 with h2 | h2
  · rw [few_len l m i h2, few_len l m k h2, if_pos (show ∃ c, l[k]? = some c ∧ 0 < c from ⟨d, hk, h0⟩)]; split <;> omega
  · obtain ⟨_, _, q3, _⟩ := lens_pm l m h1 hr h2
    exact q3 _ mk _ mi (by show d.toNat < c.toNat; omega)
theorem wt_nil : ∀ k, wt [] k = 0
  | 0 => rfl
  | k + 1 => by rw [wt, wt_nil k]; simp [cnt]
theorem allN_nil : ∀ k, allN [] k = 0
  | 0 => rfl
  | k + 1 => by rw [allN, allN_nil k]; simp [cnt]
theorem kind_tot (n : Nat) (F : Nat → Nat) (h15 : ∀ s, F s ≤ 15) : wt ((List.range n).map F) 15 = tot (fun s => if 0 < F s then 2 ^ (15 - F s) else 0) (List.range n) ∧ allN ((List.range n).map F) 15 = tot (fun s => if 0 < F s then 1 else 0) (List.range n) := by
  have : ∀ l : List Nat, wt (l.map F) 15 = tot (fun s => if 0 < F s then 2 ^ (15 - F s) else 0) l ∧ allN (l.map F) 15 = tot (fun s => if 0 < F s then 1 else 0) l := by
    intro l
    induction l with
    | nil => exact ⟨wt_nil 15, allN_nil 15⟩
    | cons x l ih =>
      rw [List.map_cons, wt_cons, allN_cons, ih.1, ih.2]
      have := h15 x
      simp only [tot]
      by_cases hx : 0 < F x
      · have hx2 : 0 < F x ∧ F x ≤ 15 := ⟨hx, this⟩
        simp only [if_pos hx, if_pos hx2]
        exact ⟨by omega, by omega⟩
      · have hx2 : ¬ (0 < F x ∧ F x ≤ 15) := by omega
        simp only [if_neg hx, if_neg hx2]
        exact ⟨by omega, by omega⟩
  exact this _
/-- Of two symbols or more the codes are whole. -/
theorem lens_kind (l : List Int) (m : Nat) (hl : l.length ≤ 320) (h1 : 1 ≤ m) (h15 : m ≤ 15) (hr : (sortC l).length ≤ 2 ^ m) :
    kindN (lensL l m) = if (sortC l).length = 0 then 0 else if (sortC l).length = 1 then 1 else 2 := by
  have hf := fun s => lens_fits l m h1 hr s
  have hbad : badL (lensL l m) = false := by
    unfold badL lensL
    rw [Bool.or_eq_false_iff]
    refine ⟨by simp; omega, ?_⟩
    rw [List.any_eq_false]
    intro x hx
    obtain ⟨s, _, rfl⟩ := List.mem_map.1 hx
    have := hf s
    simp; omega
  obtain ⟨k1, k2⟩ := kind_tot l.length (lenS l m) (fun s => by have := hf s; omega)
  have hz : ∀ i c, l[i]? = some c → ¬ 0 < c → lenS l m i = 0 := fun i c hi hc => by
    rcases Nat.eq_zero_or_pos (lenS l m i) with h | h
    · exact h
    · obtain ⟨d, hd, hd2⟩ := (lens_pos l m h1 hr i).1 h
      rw [hi] at hd; simp at hd; subst hd; exact absurd hd2 hc
  rw [tot_sortC l _ (fun i c hi hc => by rw [hz i c hi hc]; rfl)] at k1
  rw [tot_sortC l _ (fun i c hi hc => by rw [hz i c hi hc]; rfl)] at k2
  have hp : ∀ p ∈ sortC l, 0 < lenS l m p.2 := fun p hp => (lens_pos l m h1 hr p.2).2 (counts_mem.1 ⟨p, hp, rfl⟩)
  rw [tot_congr _ (fun p : Nat × Nat => 2 ^ (15 - lenS l m p.2)) _ (fun p hq => by rw [if_pos (hp p hq)])] at k1
  rw [tot_congr _ (fun _ => 1) _ (fun p hq => by rw [if_pos (hp p hq)]), tot_length] at k2
  unfold kindN
  change wt (lensL l m) 15 = _ at k1
  change allN (lensL l m) 15 = _ at k2
  rw [hbad, k1, k2]
  rcases (show (sortC l).length = 0 ∨ (sortC l).length = 1 ∨ 2 ≤ (sortC l).length by omega) with h | h | h
  · rw [h]; rfl
  · obtain ⟨p, hp2⟩ := List.length_eq_one_iff.1 h
    have e1 : lenS l m p.2 = 1 := by
      have := hp p (by rw [hp2]; simp)
      rw [few_len l m p.2 (by omega)] at this ⊢
      split at this
      · rw [if_pos ‹_›]
      · omega
    have hc1 : cnt (lensL l m) 1 = 1 := by
      have hall : ∀ x ∈ lensL l m, x ≤ 1 := by
        intro x hx
        obtain ⟨s, _, rfl⟩ := List.mem_map.1 hx
        rw [few_len l m s (by omega)]; split <;> omega
      have hgen : ∀ L : List Nat, (∀ x ∈ L, x ≤ 1) → cnt L 1 = allN L 15 := by
        intro L
        induction L with
        | nil => intro _; rw [allN_nil]; rfl
        | cons x L ih =>
          intro hx
          have := hx x (by simp)
          rw [allN_cons, cnt, ih (fun y hy => hx y (by simp [hy]))]
          by_cases h1 : x = 1
          · subst h1; simp; omega
          · rw [if_neg h1, if_neg (by omega)]; omega
      rw [hgen _ hall, k2, h]
    rw [h, hp2]
    simp only [tot, e1, hc1]
    decide
  · have hk := (lens_pm l m h1 hr h).2.2.2.1
    have hw : tot (fun p : Nat × Nat => 2 ^ (15 - lenS l m p.2)) (sortC l) = 32768 := by
      rw [tot_congr _ (fun p : Nat × Nat => 2 ^ (m - lenS l m p.2) * 2 ^ (15 - m)) _ (fun p _ => by
        rw [← Nat.pow_add]; congr 1; have := hf p.2; omega), tot_mul, hk, ← Nat.pow_add, show m + (15 - m) = 15 by omega]
    rw [hw, if_neg (by decide), if_neg (by omega), if_neg (by omega), if_pos rfl, if_neg (by omega), if_neg (by omega)]
/-- Other whole lengths weigh no less. -/
theorem lens_least (l : List Int) (m k : Nat) (h1 : 1 ≤ m) (hk : 1 ≤ k) (hr : (sortC l).length ≤ 2 ^ m) (hr2 : (sortC l).length ≤ 2 ^ k) (hfit : ∀ s, lenS l k s ≤ m) : weighN (lensL l m) l ≤ weighN (lensL l k) l := by
  unfold lensL
  rw [weigh_sortC, weigh_sortC]
  rcases Nat.lt_or_ge (sortC l).length 2 with h2 | h2
  · exact Nat.le_of_eq (tot_congr _ _ _ fun p _ => by rw [few_len l m _ h2, few_len l k _ h2])
  · obtain ⟨_, _, _, _, q5⟩ := lens_pm l m h1 hr h2
    obtain ⟨r1, _, _, r4, _⟩ := lens_pm l k hk hr2 h2
    refine q5 (lenS l k) (fun p hp => ⟨(r1 p hp).1, hfit _⟩) ?_
    have e : tot (fun p : Nat × Nat => 2 ^ (m - lenS l k p.2)) (sortC l) * 2 ^ k = tot (fun p : Nat × Nat => 2 ^ (k - lenS l k p.2)) (sortC l) * 2 ^ m := by
      rw [← tot_mul, ← tot_mul]
      refine tot_congr _ _ _ fun p hp => ?_
      rw [← Nat.pow_add, ← Nat.pow_add]
      congr 1
      have := hfit p.2
      have := (r1 p hp).2
      omega
    rw [r4, Nat.mul_comm] at e
    exact Nat.eq_of_mul_eq_mul_left (Nat.two_pow_pos k) e
end Go.Proofs.YtciejmlhdmjajaaGreat
namespace Go.Proofs.YtciejmlhdmjajaaGreat
open Go.RowKit
set_option linter.unusedVariables false
set_option linter.unusedSimpArgs false

/-- A row of whole numbers that is made. -/
theorem run_make_nats (w : World) (n : Nat) (hn : n ≤ 1000000000) : (Instr.makeSlice 81 (.int .i64 (n : Int)) (.int .i64 (n : Int))).run Tryz.prog w =
    .ok (.slice (some ⟨w.heap.size, 0, none⟩) n n) (w.alloc (.cells (madeCells #[.int .i64 0] n) 3)) :=
  run_make_row' 81 3 (.int .i64 0) 8 Tryz.underlying81 (by kernel_rfl) rfl .i64 .i64 n (by omega) (by omega) w
theorem made_nats (w : World) (n : Nat) : Nrow (w.alloc (.cells (madeCells #[.int .i64 0] n) 3)) w.heap.size 3 .i64 n (fun _ => 0) := by
  unfold Nrow
  rw [new_of]
  congr 2
  apply Array.ext
  · rw [size_madeCells]; simp
  · intro i h1 h2
    simp [madeCells, Nat.mod_one]
theorem sl_irow {w : World} {g n : Nat} {F : Nat → Nat} (h : Nrow w g 3 .i64 n F) : SlOf (Zn .i64) 1 w (some ⟨g, 0, none⟩) ((List.range n).map fun i => (F i : Int)) := fun _ => by
  refine ⟨g, 0, rfl, lt_of h, fun i x hi j u hu => ?_⟩
  have hj : j = 0 := by
    have := (List.getElem?_eq_some_iff.1 hu).1
    simp [Zn] at this
    exact this
  subst hj
  have hin : i < n := by have := (List.getElem?_eq_some_iff.1 hi).1; simpa using this
  rw [List.getElem?_map, List.getElem?_range hin] at hi
  simp at hi
  subst hi
  rw [Nat.zero_add, Nat.mul_one, Nat.add_zero, h.cell i hin, ← hu]
  rfl
/-- Counts, as a list. -/
def ctL (F : Nat → Nat) (n : Nat) : List Int := (List.range n).map fun i => (F i : Int)
theorem ctL_len (F : Nat → Nat) (n : Nat) : (ctL F n).length = n := by simp [ctL]
theorem ctL_get (F : Nat → Nat) (n i : Nat) (h : i < n) : (ctL F n)[i]? = some (F i : Int) := by simp [ctL, h]
theorem ctL_mem {F : Nat → Nat} {n B : Nat} (h : ∀ i, i < n → F i ≤ B) : ∀ x ∈ ctL F n, 0 ≤ x ∧ x ≤ (B : Int) := by
  intro x hx
  obtain ⟨i, hi, rfl⟩ := List.mem_map.1 hx
  have := h i (List.mem_range.1 hi)
  omega
theorem ctL_of {F : Nat → Nat} {n i : Nat} {c : Int} (h : (ctL F n)[i]? = some c) : i < n ∧ c = (F i : Int) := by
  have hi : i < n := by have := (List.getElem?_eq_some_iff.1 h).1; rwa [ctL_len] at this
  rw [ctL_get F n i hi] at h
  exact ⟨hi, by simpa using h.symm⟩
/-- How many of the first j count. -/
def posN (F : Nat → Nat) : Nat → Nat
  | 0 => 0
  | j + 1 => posN F j + if 0 < F j then 1 else 0
theorem posN_le (F : Nat → Nat) : ∀ j, posN F j ≤ j
  | 0 => Nat.le_refl _
  | j + 1 => by have := posN_le F j; simp only [posN]; split <;> omega
theorem posN_tot (F : Nat → Nat) : ∀ j, posN F j = tot (fun s => if 0 < F s then 1 else 0) (List.range j)
  | 0 => rfl
  | j + 1 => by rw [posN, posN_tot F j, List.range_succ, tot_append]; simp [tot]
theorem posN_sort (F : Nat → Nat) (n : Nat) : posN F n = (sortC (ctL F n)).length := by
  have h := tot_sortC (ctL F n) (fun s => if 0 < F s then 1 else 0) (fun i c hi hc => by
    obtain ⟨h1, rfl⟩ := ctL_of hi
    rw [if_neg (by omega)])
  rw [ctL_len] at h
  rw [posN_tot, h, tot_congr _ (fun _ => 1) _ (fun p hp => by
    obtain ⟨c, hc, h0, _⟩ := (sortC_mem _ p).1 hp
    obtain ⟨h1, rfl⟩ := ctL_of hc
    rw [if_pos (by omega)]), tot_length]
theorem ctL_good {F : Nat → Nat} {n : Nat} (hn : n ≤ 320) (h : ∀ i, i < n → F i ≤ 1073741824) : ¬ badC (ctL F n) :=
  badC_not (by rw [ctL_len]; exact hn) (ctL_mem h)
theorem ctL_bad {F : Nat → Nat} {n : Nat} (hn : n ≤ 320) (h : ∀ i, i < n → F i ≤ 1073741824) {M : Nat} (h1 : 1 ≤ M) (h2 : M ≤ 15) : badP (ctL F n) (M : Int) ↔ M < needN (posN F n : Int) := by
  rw [posN_sort]
  unfold badP
  constructor
  · rintro (h' | h' | h' | h')
    · exact absurd h' (ctL_good hn h)
    · omega
    · omega
    · omega
  · intro h'
    exact .inr (.inr (.inr (by omega)))
/-- pack.Lens, of counts that are in a row of their own. -/
theorem lens_row (g n cp M : Nat) (F : Nat → Nat) (w : World) (hN : Nrow w g 3 .i64 n F) (hn : n ≤ 320) (hF : ∀ i, i < n → F i ≤ 1073741824) (h1 : 1 ≤ M) (h2 : M ≤ 15) :
    Calls Tryz.prog 38 #[.slice (some ⟨g, 0, none⟩) n cp, .int .i64 (M : Int)] w fun e w' => Fr [] w w' ∧ (M < needN (posN F n : Int) ∧ e = .returned (.tuple #[.slice none 0 0, .int .i64 2]) ∨ needN (posN F n : Int) ≤ M ∧ ∃ gl, e = .returned (.tuple #[.slice (some ⟨gl, 0, none⟩) n n, .int .i64 0]) ∧ w.heap.size ≤ gl ∧ Nrow w' gl 5 .u8 n (lenS (ctL F n) M)) := by
  have h := lens_any (some ⟨g, 0, none⟩) cp (ctL F n) (M : Int) w (sl_irow hN) (by rw [ctL_len]; omega) (by omega) (by omega)
  rw [ctL_len, Int.toNat_natCast] at h
  refine h.mono fun e w' ⟨k1, k2⟩ => ⟨k1, ?_⟩
  rcases k2 with ⟨k2, k3⟩ | ⟨k2, k3⟩
  · exact .inl ⟨(ctL_bad hn hF h1 h2).1 k2, k3⟩
  · rw [ctL_bad hn hF h1 h2] at k2
    exact .inr ⟨by omega, k3⟩

/-- What holds at the head of a round of the loop that fills the counts. -/
def FillR (w : World) (gc n : Nat) (F : Nat → Nat) (v7 v8 : Value) (wr : World) : Prop :=
  ∃ j : Nat, v8 = .int .i64 (j : Int) ∧ j ≤ n ∧ v7 = .int .i64 (posN F j : Nat) ∧ Nrow wr gc 3 .i64 n (fun s => if s < j then F s else 0) ∧ Fr [] w wr
end Go.Proofs.YtciejmlhdmjajaaGreat

