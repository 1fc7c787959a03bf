/- What rows in memory are, as lists: the levels' rows are package-merge's. -/
import Derived.Test.YtciejmlhdmjajaaKPc
import Derived.Test.YtciejmlhdmjajaaKPf
namespace Go.Proofs.Ytciejmlhdmjajaa
open Go.RowKit
set_option linter.unusedVariables false
set_option linter.unusedSimpArgs false

/-- The packages of a row. -/
def pairs (A : Nat → Nat × PT) (k : Nat) : Nat × PT := ((A (2 * k)).1 + (A (2 * k + 1)).1, .node (A (2 * k)).2 (A (2 * k + 1)).2)
/-- Two rows in one, in order. -/
def Stepped (n : Nat) (L A : Nat → Nat × PT) (r : Nat) (A' : Nat → Nat × PT) : Prop := ∃ τ, Shuf 0 (n + r / 2) id τ ∧ SortedS (fun k => (if k < n then L k else pairs A (k - n)).1) τ 0 (n + r / 2) ∧ ∀ k, k < n + r / 2 → A' k = if τ k < n then L (τ k) else pairs A (τ k - n)

/-- The rows of the levels: level 1 has the leaves alone. -/
inductive Lev (n : Nat) (L : Nat → Nat × PT) : Nat → Nat → (Nat → Nat × PT) → Prop
  | one : Lev n L 0 n L
  | more (j r : Nat) (A A' : Nat → Nat × PT) : Lev n L j r A → Stepped n L A r A' → Lev n L (j + 1) (n + r / 2) A'

/-- Pairs by the first, then by the second. -/
def lexB (a b : Nat × Nat) : Bool := decide (a.1 < b.1 ∨ a.1 = b.1 ∧ a.2 ≤ b.2)
theorem lexB_trans (a b c : Nat × Nat) : lexB a b = true → lexB b c = true → lexB a c = true := by
  unfold lexB; simp only [decide_eq_true_eq]; omega
theorem lexB_total (a b : Nat × Nat) : (lexB a b || lexB b a) = true := by
  unfold lexB; simp only [Bool.or_eq_true, decide_eq_true_eq]; omega
theorem lexB_anti (a b : Nat × Nat) (h : lexB a b = true) (k : lexB b a = true) : a = b := by
  unfold lexB at h k
  simp only [decide_eq_true_eq] at h k
  exact Prod.ext (by omega) (by omega)
theorem lex_eq {l m : List (Nat × Nat)} (h : l.Perm m) (hl : l.Pairwise (fun a b => lexB a b = true)) (hm : m.Pairwise (fun a b => lexB a b = true)) : l = m :=
  List.Perm.eq_of_pairwise (fun a b _ _ => lexB_anti a b) hl hm h
theorem shuf_perm {n : Nat} {W τ : Nat → Nat} (h : Shuf 0 n id τ) (hs : SortedS W τ 0 n) : ((List.range n).map τ).Perm (List.range n) := by
  have hnd : ((List.range n).map τ).Nodup := by
    unfold List.Nodup
    rw [List.pairwise_map]
    refine List.Pairwise.imp_of_mem ?_ List.pairwise_lt_range
    intro i j hi hj hij he
    have := hs i j (Nat.zero_le _) hij (List.mem_range.1 hj)
    unfold ltS at this
    rw [he] at this
    omega
  rw [List.perm_ext_iff_of_nodup hnd List.nodup_range]
  intro k
  constructor
  · intro hk
    obtain ⟨i, hi, rfl⟩ := List.mem_map.1 hk
    obtain ⟨j, _, hj, e⟩ := h.2.1 i (Nat.zero_le _) (List.mem_range.1 hi)
    rw [e]; exact List.mem_range.2 hj
  · intro hk
    obtain ⟨j, _, hj, e⟩ := h.2.2 k (Nat.zero_le _) (List.mem_range.1 hk)
    exact List.mem_map.2 ⟨j, List.mem_range.2 hj, e.symm⟩
theorem sorted_lex {n : Nat} {W τ : Nat → Nat} (hs : SortedS W τ 0 n) : ((List.range n).map fun k => (W (τ k), τ k)).Pairwise (fun a b => lexB a b = true) := by
  rw [List.pairwise_map]
  refine List.Pairwise.imp_of_mem ?_ List.pairwise_lt_range
  intro i j hi hj hij
  have := hs i j (Nat.zero_le _) hij (List.mem_range.1 hj)
  unfold ltS at this
  unfold lexB
  simp only [decide_eq_true_eq]
  omega
theorem up_lex {a n : Nat} {W : Nat → Nat} (h : ∀ i j, i < j → j < n → W (a + i) ≤ W (a + j)) : ((List.range n).map fun k => (W (a + k), a + k)).Pairwise (fun a b => lexB a b = true) := by
  rw [List.pairwise_map]
  refine List.Pairwise.imp_of_mem ?_ List.pairwise_lt_range
  intro i j hi hj hij
  have := h i j hij (List.mem_range.1 hj)
  unfold lexB
  simp only [decide_eq_true_eq]
  omega
theorem stepped_list {α : Type} (X : Nat → Nat × α) (n m : Nat) (τ : Nat → Nat) (h : Shuf 0 (n + m) id τ) (hs : SortedS (fun k => (X k).1) τ 0 (n + m)) (h1 : ∀ i j, i < j → j < n → (X i).1 ≤ (X j).1) (h2 : ∀ i j, i < j → j < m → (X (n + i)).1 ≤ (X (n + j)).1) :
    (List.range (n + m)).map (fun k => X (τ k)) = mrg ((List.range n).map X) ((List.range m).map fun k => X (n + k)) := by
  have hT : (List.range (n + m)).map (fun k => ((X (τ k)).1, τ k)) = ((List.range n).map fun k => ((X k).1, k)).merge ((List.range m).map fun k => ((X (n + k)).1, n + k)) lexB := by
    refine lex_eq ?_ (sorted_lex hs) (List.pairwise_merge lexB_trans lexB_total _ _ ?_ (up_lex (W := fun k => (X k).1) h2))
    · refine List.Perm.trans ?_ (List.merge_perm_append lexB).symm
      have e : ((List.range n).map fun k => ((X k).1, k)) ++ ((List.range m).map fun k => ((X (n + k)).1, n + k)) = (List.range (n + m)).map fun k => ((X k).1, k) := by
        rw [List.range_add, List.map_append, List.map_map]; rfl
      rw [e]
      have := (shuf_perm h hs).map fun k => ((X k).1, k)
      rwa [List.map_map] at this
    · have := up_lex (a := 0) (n := n) (W := fun k => (X k).1) (by simpa using h1)
      simpa using this
  have hM := congrArg (List.map fun p : Nat × Nat => X p.2) hT
  rw [List.map_map] at hM
  rw [List.map_merge (s := leP)] at hM
  · rw [List.map_map, List.map_map] at hM
    exact hM
  · intro a ha b hb
    obtain ⟨i, hi, rfl⟩ := List.mem_map.1 ha
    obtain ⟨j, hj, rfl⟩ := List.mem_map.1 hb
    have := List.mem_range.1 hi
    unfold lexB leP
    simp only
    congr 1
    rw [eq_iff_iff]
    omega
theorem prs_map (A : Nat → Nat × PT) (r : Nat) : prs PT.node ((List.range r).map A) = (List.range (r / 2)).map (pairs A) := by
  apply List.ext_getElem?
  intro k
  by_cases hk : k < r / 2
  · rw [prs_get PT.node _ k (A (2 * k)) (A (2 * k + 1)) (by rw [List.getElem?_map, List.getElem?_range (by omega)]; rfl) (by rw [List.getElem?_map, List.getElem?_range (by omega)]; rfl), List.getElem?_map, List.getElem?_range hk]
    rfl
  · rw [List.getElem?_eq_none (by rw [prs_length]; simp; omega), List.getElem?_eq_none (by simp; omega)]
theorem srt_map {α : Type} {A : Nat → Nat × α} {r : Nat} (h : srt ((List.range r).map A)) (i j : Nat) (hij : i < j) (hj : j < r) : (A i).1 ≤ (A j).1 :=
  srt_get h (i := i) (j := j) (by rw [List.getElem?_map, List.getElem?_range (by omega)]; rfl) (by rw [List.getElem?_map, List.getElem?_range hj]; rfl) (by omega)
theorem Lev.list {n : Nat} {L : Nat → Nat × PT} (hL : srt ((List.range n).map L)) {j r : Nat} {A : Nat → Nat × PT} (h : Lev n L j r A) : (List.range r).map A = lev PT.node ((List.range n).map L) j := by
  induction h with
  | one => rfl
  | more j r A A' _ hst ih =>
    obtain ⟨τ, t1, t2, t3⟩ := hst
    rw [lev, ← ih, prs_map]
    have hsr : srt ((List.range r).map A) := by rw [ih]; exact lev_srt PT.node _ hL j
    have hps := prs_srt PT.node _ hsr
    rw [prs_map] at hps
    have e := stepped_list (fun k => if k < n then L k else pairs A (k - n)) n (r / 2) τ t1 t2 (fun i j hij hj => by simp only [if_pos hj, if_pos (show i < n by omega)]; exact srt_map hL i j hij hj) (fun i j hij hj => by
      simp only [if_neg (show ¬ n + i < n by omega), if_neg (show ¬ n + j < n by omega), show n + i - n = i by omega, show n + j - n = j by omega]
      exact srt_map hps i j hij hj)
    have e1 : (List.range (n + r / 2)).map A' = (List.range (n + r / 2)).map (fun k => if τ k < n then L (τ k) else pairs A (τ k - n)) := List.map_congr_left fun k hk => t3 k (List.mem_range.1 hk)
    rw [e1]
    refine e.trans ?_
    congr 1
    · exact List.map_congr_left fun k hk => by rw [if_pos (List.mem_range.1 hk)]
    · exact List.map_congr_left fun k _ => by rw [if_neg (by omega), show n + k - n = k by omega]
theorem Lev.len {n : Nat} {L : Nat → Nat × PT} (hL : srt ((List.range n).map L)) {j r : Nat} {A : Nat → Nat × PT} (h : Lev n L j r A) : (lev PT.node ((List.range n).map L) j).length = r := by
  rw [← h.list hL]; simp

/-- The counts that are, each with its symbol. -/
def cntL : Nat → List Int → List (Nat × Nat)
  | _, [] => []
  | s, c :: xs => if 0 < c then (c.toNat, s) :: cntL (s + 1) xs else cntL (s + 1) xs
theorem cntL_leafL : ∀ (xs : List Int) (s : Nat), (leafL s xs).map (fun t => (t.w, t.s)) = cntL s xs
  | [], s => rfl
  | c :: xs, s => by
    rw [leafL, cntL]
    by_cases h : 0 < c
    · rw [if_pos h, if_pos h, List.map_cons, cntL_leafL]
    · rw [if_neg h, if_neg h, cntL_leafL]
theorem cntL_mem : ∀ (xs : List Int) (s : Nat) (p : Nat × Nat), p ∈ cntL s xs ↔ ∃ i c, xs[i]? = some c ∧ 0 < c ∧ p = (c.toNat, s + i)
  | [], s, p => by simp [cntL]
  | c :: xs, s, p => by
    have ih := cntL_mem xs (s + 1) p
    have e : (∃ i d, (c :: xs)[i]? = some d ∧ 0 < d ∧ p = (d.toNat, s + i)) ↔ (0 < c ∧ p = (c.toNat, s)) ∨ ∃ i d, xs[i]? = some d ∧ 0 < d ∧ p = (d.toNat, s + 1 + i) := by
      constructor
      · rintro ⟨i, d, h1, h2, h3⟩
        cases i with
        | zero => simp at h1; subst h1; exact .inl ⟨h2, by simpa using h3⟩
        | succ i => exact .inr ⟨i, d, by simpa using h1, h2, by rw [h3]; congr 1; omega⟩
      · rintro (⟨h1, h2⟩ | ⟨i, d, h1, h2, h3⟩)
        · exact ⟨0, c, rfl, h1, by simpa using h2⟩
        · exact ⟨i + 1, d, by simpa using h1, h2, by rw [h3]; congr 1; omega⟩
    rw [e, ← ih, cntL]
    by_cases h : 0 < c
    · rw [if_pos h, List.mem_cons]; simp [h]
    · rw [if_neg h]; simp [h]
theorem cntL_up : ∀ (xs : List Int) (s : Nat), (cntL s xs).Pairwise (fun a b => a.2 < b.2)
  | [], s => List.Pairwise.nil
  | c :: xs, s => by
    rw [cntL]
    by_cases h : 0 < c
    · rw [if_pos h]
      refine List.pairwise_cons.2 ⟨fun b hb => ?_, cntL_up xs (s + 1)⟩
      obtain ⟨i, d, _, _, rfl⟩ := (cntL_mem xs (s + 1) b).1 hb
      simp only; omega
    · rw [if_neg h]; exact cntL_up xs (s + 1)
/-- The symbols that count, by rising counts. -/
def sortC (l : List Int) : List (Nat × Nat) := (cntL 0 l).mergeSort lexB
theorem sortC_perm (l : List Int) : (sortC l).Perm (cntL 0 l) := List.mergeSort_perm _ _
theorem sortC_lex (l : List Int) : (sortC l).Pairwise (fun a b => lexB a b = true) := List.pairwise_mergeSort lexB_trans lexB_total _
theorem sortC_of {l : List Int} {S : List (Nat × Nat)} (h : S.Perm (cntL 0 l)) (hs : S.Pairwise (fun a b => lexB a b = true)) : S = sortC l := lex_eq (h.trans (sortC_perm l).symm) hs (sortC_lex l)
theorem sortC_length (l : List Int) : (sortC l).length = (leafL 0 l).length := by
  rw [(sortC_perm l).length_eq, ← cntL_leafL, List.length_map]
/-- A leaf of the first row. -/
def leafP (p : Nat × Nat) : Nat × PT := (p.1, .leaf p.2)
def symP : PT → Nat
  | .leaf s => s
  | .node _ _ => 0
theorem leafs_of {l : List Int} {τ : Nat → Nat} (h : Shuf 0 (leafL 0 l).length id τ) (hs : SortedS (fun k => (rowF (leafL 0 l) k).w) τ 0 (leafL 0 l).length) :
    (List.range (leafL 0 l).length).map (fun k => ((rowF (leafL 0 l) (τ k)).w, (rowF (leafL 0 l) (τ k)).s)) = sortC l := by
  have hrow : (List.range (leafL 0 l).length).map (rowF (leafL 0 l)) = leafL 0 l := by
    apply List.ext_getElem?
    intro i
    by_cases hi : i < (leafL 0 l).length
    · simp [hi, rowF]
    · rw [List.getElem?_eq_none (by simp; omega), List.getElem?_eq_none (by omega)]
  refine sortC_of ?_ ?_
  · rw [← cntL_leafL]
    have h1 := (shuf_perm h hs).map fun k => ((rowF (leafL 0 l) k).w, (rowF (leafL 0 l) k).s)
    rw [List.map_map] at h1
    have h2 := congrArg (List.map fun t : Th => (t.w, t.s)) hrow
    rw [List.map_map] at h2
    rw [← h2]
    exact h1
  · rw [List.pairwise_map]
    refine List.Pairwise.imp_of_mem ?_ List.pairwise_lt_range
    intro i j hi hj hij
    have h3 := hs i j (Nat.zero_le _) hij (List.mem_range.1 hj)
    unfold ltS at h3
    unfold lexB
    simp only [decide_eq_true_eq]
    rcases h3 with h3 | ⟨h3, h4⟩
    · exact .inl h3
    · refine .inr ⟨h3, ?_⟩
      have hj' : τ j < (leafL 0 l).length := shuf_lt h j (List.mem_range.1 hj)
      have hup := cntL_up l 0
      rw [← cntL_leafL, List.pairwise_map, List.pairwise_iff_getElem] at hup
      have := hup (τ i) (τ j) (by omega) hj' h4
      unfold rowF
      rw [List.getD_eq_getElem?_getD, List.getD_eq_getElem?_getD, List.getElem?_eq_getElem (by omega), List.getElem?_eq_getElem hj']
      simp only [Option.getD_some]
      omega
theorem sortC_srt (l : List Int) : srt ((sortC l).map leafP) := by
  unfold srt
  rw [List.pairwise_map]
  refine (sortC_lex l).imp fun {a b} h => ?_
  unfold lexB at h
  simp only [decide_eq_true_eq] at h
  simp only [leafP]; omega
theorem sortC_dst (l : List Int) : dst symP ((sortC l).map leafP) := by
  unfold dst
  rw [List.pairwise_map]
  have h : (cntL 0 l).Pairwise (fun a b => a.2 ≠ b.2) := (cntL_up l 0).imp fun h => Nat.ne_of_lt h
  exact (sortC_perm l).symm.pairwise h fun h => Ne.symm h
theorem sortC_mem (l : List Int) (p : Nat × Nat) : p ∈ sortC l ↔ ∃ c, l[p.2]? = some c ∧ 0 < c ∧ p.1 = c.toNat := by
  rw [(sortC_perm l).mem_iff, cntL_mem]
  constructor
  · rintro ⟨i, c, h1, h2, rfl⟩; exact ⟨c, by simpa using h1, h2, rfl⟩
  · rintro ⟨c, h1, h2, h3⟩; exact ⟨p.2, c, h1, h2, Prod.ext h3 (by simp)⟩
theorem occ_leafP (l : List (Nat × Nat)) : ∀ x ∈ l.map leafP, ∀ s, occ x.2 s = if s = symP x.2 then 1 else 0 := by
  intro x hx s
  obtain ⟨p, _, rfl⟩ := List.mem_map.1 hx
  rfl
/-- How often a symbol is in the first k things of a row. -/
def sumOcc (A : Nat → Nat × PT) : Nat → Nat → Nat
  | 0, _ => 0
  | k + 1, s => sumOcc A k s + occ (A k).2 s
theorem sumOcc_tot (A : Nat → Nat × PT) (k s : Nat) : sumOcc A k s = tot (fun x : Nat × PT => occ x.2 s) ((List.range k).map A) := by
  induction k with
  | zero => rfl
  | succ k ih => rw [List.range_succ, List.map_append, tot_append, ← ih]; simp [sumOcc, tot]
/-- A row's symbols: as many as there are levels, and none that does not count. -/
theorem Lev.occs {l : List Int} {n : Nat} {L : Nat → Nat × PT} (hL : (List.range n).map L = (sortC l).map leafP) {j r : Nat} {A : Nat → Nat × PT} (h : Lev n L j r A) (k : Nat) (hk : k ≤ r) (s : Nat) :
    sumOcc A k s = tot (fun x : Nat × PT => occ x.2 s) ((lev PT.node ((sortC l).map leafP) j).take k) ∧ sumOcc A k s ≤ j + 1 ∧ (0 < sumOcc A k s → s < l.length) := by
  have hsr : srt ((List.range n).map L) := by rw [hL]; exact sortC_srt l
  have e := h.list hsr
  rw [hL] at e
  have e1 : sumOcc A k s = tot (fun x : Nat × PT => occ x.2 s) ((lev PT.node ((sortC l).map leafP) j).take k) := by
    rw [sumOcc_tot, ← e, ← List.map_take, List.take_range, Nat.min_eq_left hk]
  have hlen : k ≤ (lev PT.node ((sortC l).map leafP) j).length := by rw [← e]; simpa using hk
  obtain ⟨a, a1, a2, a3, _, _⟩ := len_shape symP PT.node occ (fun _ _ _ => rfl) ((sortC l).map leafP) (occ_leafP _) (sortC_srt l) j k hlen
  refine ⟨e1, ?_, fun hpos => ?_⟩
  · rw [e1, a3]
    have hone : ∀ m, kap symP (((sortC l).map leafP).take m) s ≤ 1 := by
      intro m
      by_cases hex : ∃ x ∈ (sortC l).map leafP, s = symP x.2
      · obtain ⟨x, hx, rfl⟩ := hex
        obtain ⟨q, hq⟩ := List.getElem?_of_mem hx
        rw [kap_get symP _ m q x (sortC_dst l) hq]
        split <;> omega
      · rw [kap_out symP _ s fun y hy he => hex ⟨y, List.mem_of_mem_take hy, he⟩]; omega
    refine Nat.le_trans (sumTo_le _ (fun _ => 1) j fun i _ => hone _) ?_
    rw [sumTo_const]; omega
  · rw [e1, a3] at hpos
    rcases Nat.lt_or_ge s l.length with h1 | h1
    · exact h1
    · exfalso
      rw [sumTo_congr _ (fun _ => 0) j (fun i _ => kap_out symP _ s fun y hy he => by
        obtain ⟨p, hp, rfl⟩ := List.mem_map.1 (List.mem_of_mem_take hy)
        obtain ⟨c, hc, _⟩ := (sortC_mem l p).1 hp
        have := (List.getElem?_eq_some_iff.1 hc).1
        simp only [leafP, symP] at he
        omega), sumTo_const] at hpos
      simp at hpos
end Go.Proofs.Ytciejmlhdmjajaa

