/- Maps whose keys are structs, as functions from keys to values: what a block of memory holds, read, written, ranged over. -/
import Derived.Test.YtmnipgmheapfbaaBa
import Derived.Maps.RangeWalk
import Derived.Maps.Own
import Derived.DeepKeys4
namespace Go.Proofs.Ytmnipgmheapfbaa
open Go.RowKit
open Go.WideElems (Fit rd rg pl rd_val rd_key rg_of rd_mk)
open Go.Maps (Keyed)
open Go.ChangeMaps (setBlock)
set_option linter.unusedVariables false
set_option linter.unusedSimpArgs false

/-- An element stands for itself. -/
def RV (v : Value) : Option (DataW Value × List MemPlace) := some (.held v, [])
/-- Block b is a map of at most n entries: at each key what G says. -/
def Mp (P : Program) (k : TypeId) (w : World) (b n : Nat) (G : Value → Option Value) : Prop :=
  ∃ es clock, w.heap[b]? = some (.map es clock) ∧ Fit P k RV es clock ∧ es.size ≤ n ∧ (∀ x ∈ es.toList, G x.key = some x.val) ∧ (∀ key, G key ≠ none → ∃ x ∈ es.toList, x.key = key)
section
variable {P : Program} {k t e : TypeId} {w : World} {b n : Nat} {G : Value → Option Value}
theorem Mp.made (P : Program) (k : TypeId) (w : World) : Mp P k (w.alloc (.map #[] 0)) w.heap.size 0 (fun _ => none) :=
  ⟨#[], 0, new_of w _, ⟨by simp, MapKept.stamped_empty 0, by simp⟩, Nat.le_refl _, by simp, fun _ h => absurd rfl h⟩
theorem Mp.to {w' : World} {l : List Nat} (h : Mp P k w b n G) (f : Fr l w w') (hb : b ∉ l) : Mp P k w' b n G := by
  obtain ⟨es, c, h1, r⟩ := h
  exact ⟨es, c, f.blk h1 hb, r⟩
theorem Mp.mono {n' : Nat} (h : Mp P k w b n G) (hn : n ≤ n') : Mp P k w b n' G := by
  obtain ⟨es, c, h1, F, h2, r⟩ := h
  exact ⟨es, c, h1, F, Nat.le_trans h2 hn, r⟩
theorem Mp.lt (h : Mp P k w b n G) : b < w.heap.size := by
  obtain ⟨es, c, h1, r⟩ := h
  exact lt_of h1
theorem Mp.find (h : Mp P k w b n G) {key : Value} {v : Value} (hv : G key = some v) : ∃ es clock x, w.heap[b]? = some (.map es clock) ∧ x ∈ es.toList ∧ x.key = key ∧ x.val = v := by
  obtain ⟨es, c, h1, F, h2, h3, h4⟩ := h
  obtain ⟨x, hx, rfl⟩ := h4 key (by rw [hv]; simp)
  have := h3 x hx
  rw [hv] at this
  exact ⟨es, c, x, h1, hx, rfl, (Option.some.inj this).symm⟩
theorem Mp.key (h : Mp P k w b n G) {key v : Value} (hv : G key = some v) : ∃ kl, keyOf P k key = some kl := by
  obtain ⟨es, c, h1, F, h2, h3, h4⟩ := h
  obtain ⟨x, hx, rfl⟩ := h4 key (by rw [hv]; simp)
  obtain ⟨y, hy⟩ := F.reads x hx
  exact ⟨_, rd_key hy⟩
/-- 'm[k]', and 'v, is := m[k]'. -/
theorem Mp.lookup (c : Bool) (h : Mp P k w b n G) (K : Keyed P k) (ht : P.underlying t = some (.map k e)) {z : Value} (hz : (zeroValue e).run P w = .ok z w) {key : Value} {kl : Lit} (hkey : keyOf P k key = some kl) :
    (Instr.lookup t (.map (some b)) key c).run P w = .ok (if c then .tuple #[(G key).getD z, .bool (G key).isSome] else (G key).getD z) w := by
  obtain ⟨es, cl, h1, F, h2, h3, h4⟩ := h
  rcases K.find w hkey es.toList F.keys with ⟨f1, f2⟩ | ⟨j, e0, f1, f2, f3⟩
  · have hn : G key = none := by
      cases hg : G key with
      | none => rfl
      | some v =>
        obtain ⟨x, hx, hxk⟩ := h4 key (by rw [hg]; simp)
        exact absurd hxk (f2 x hx)
    rw [hn]
    simp [Instr.lookup, run_underlying ht, MapKept.run_getObj_map h1, K.check w _ hkey, f1, hz, Result.andThen]
  · have hs := h3 e0 (List.mem_of_getElem? f2)
    rw [f3] at hs
    rw [hs]
    simp [Instr.lookup, run_underlying ht, MapKept.run_getObj_map h1, K.check w _ hkey, f1, Result.andThen]
theorem setBlock_fr (w : World) (b : Nat) (o : Obj) : Fr [b] w (setBlock w b o) :=
  ⟨rfl, rfl, rfl, by simp [setBlock], fun i hi hl => by
    show (w.heap.setIfInBounds b o)[i]? = w.heap[i]?
    rw [Array.getElem?_setIfInBounds_ne (fun e => hl (by simp [e]))]⟩
open Classical in
/-- 'm[k] = v'. -/
theorem Mp.update (h : Mp P k w b n G) (K : Keyed P k) (ht : P.underlying t = some (.map k e)) (hn : n < maxLen) {key val : Value} {kl : Lit} (hkey : keyOf P k key = some kl) :
    ∃ w', (Instr.mapUpdate t (.map (some b)) key val).run P w = .ok () w' ∧ Mp P k w' b (n + 1) (fun x => if x = key then some val else G x) ∧ Fr [b] w w' := by
  obtain ⟨es, cl, h1, F, h2, h3, h4⟩ := h
  obtain ⟨es', cl', r1, F', r3, _, _, r6⟩ := Maps.fit_store (R := RV) (R' := RV) (val := val) (yv := (.held val, [])) K ht h1 F (by omega) (fun x hx hne z hz => hz) hkey rfl
  have hb := (MapKept.heap_set (o' := .map es' cl') h1).1
  refine ⟨_, r1, ⟨es', cl', hb, F', ?_, ?_, ?_⟩, setBlock_fr w b _⟩
  · have e1 : es'.size = ((es'.toList.map (rg P k RV)).foldr DataW.insert []).length := by rw [length_sorted]; simp
    have e2 := List.length_filter_le (ChangeMaps.notKey kl) ((es.toList.map (rg P k RV)).foldr DataW.insert [])
    rw [length_sorted] at e2
    rw [e1, r3]
    unfold ChangeMaps.putKey
    rw [length_insert]
    simp at e2
    omega
  · intro x hx
    rcases r6 x hx with ⟨hx1, hx2⟩ | ⟨hx1, hx2⟩
    · simp only [if_neg hx2]; exact h3 x hx1
    · simp only [if_pos hx1, hx2]
  · have hmem : ∀ p, p ∈ es'.toList.map (rg P k RV) ↔ p = (kl, .held val) ∨ (p ∈ es.toList.map (rg P k RV) ∧ ChangeMaps.notKey kl p = true) := fun p => by
      rw [← mem_sorted, r3]
      unfold ChangeMaps.putKey
      rw [ChangeMaps.mem_insert_iff, List.mem_filter, mem_sorted]
    intro ky hky
    by_cases hkk : ky = key
    · subst hkk
      obtain ⟨x, hx, hxe⟩ := List.mem_map.1 ((hmem (kl, .held val)).2 (.inl rfl))
      obtain ⟨y, hy⟩ := F'.reads x hx
      rw [rg_of hy] at hxe
      have := rd_key hy
      rw [hxe] at this
      exact ⟨x, hx, K.inj this hkey⟩
    · simp only [if_neg hkk] at hky
      obtain ⟨x, hx, rfl⟩ := h4 ky hky
      obtain ⟨y, hy⟩ := F.reads x hx
      have hk := rd_key hy
      have hnot : ChangeMaps.notKey kl (rg P k RV x) = true := by
        rw [rg_of hy, Maps.notKey_iff (K.key hkey)]
        intro e1
        rw [e1] at hk
        exact hkk (K.inj hk hkey)
      obtain ⟨x', hx', hxe⟩ := List.mem_map.1 ((hmem (rg P k RV x)).2 (.inr ⟨List.mem_map.2 ⟨x, hx, rfl⟩, hnot⟩))
      obtain ⟨y', hy'⟩ := F'.reads x' hx'
      rw [rg_of hy', rg_of hy] at hxe
      have hk' := rd_key hy'
      rw [hxe] at hk'
      exact ⟨x', hx', K.inj hk' hk⟩

/-- 'range m' under way: which keys have come. -/
def Rn (P : Program) (k : TypeId) (w : World) (b r n : Nat) (G : Value → Option Value) (done : Value → Prop) (cnt : Nat) : Prop :=
  ∃ es clock since seen c0, w.heap[b]? = some (.map es clock) ∧ Fit P k RV es clock ∧ es.size ≤ n ∧ (∀ x ∈ es.toList, G x.key = some x.val) ∧ (∀ key, G key ≠ none → ∃ x ∈ es.toList, x.key = key) ∧
    w.heap[r]? = some (.mapIter (some b) since seen c0) ∧ (∀ x ∈ es.toList, x.born < since) ∧ (leftOf es seen).size = cnt ∧ (∀ x ∈ es.toList, seen.contains x.born = true ↔ done x.key) ∧ since ≤ c0 ∧ since ≤ clock
theorem Rn.to {w' : World} {r cnt : Nat} {done : Value → Prop} {l : List Nat} (h : Rn P k w b r n G done cnt) (f : Fr l w w') (hb : b ∉ l) (hr : r ∉ l) : Rn P k w' b r n G done cnt := by
  obtain ⟨es, clock, since, seen, c0, h1, h2, h3, h4, h5, h6, h7⟩ := h
  exact ⟨es, clock, since, seen, c0, f.blk h1 hb, h2, h3, h4, h5, f.blk h6 hr, h7⟩
theorem Rn.mp {r cnt : Nat} {done : Value → Prop} (h : Rn P k w b r n G done cnt) : Mp P k w b n G := by
  obtain ⟨es, clock, since, seen, c0, h1, h2, h3, h4, h5, h6, h7⟩ := h
  exact ⟨es, clock, h1, h2, h3, h4, h5⟩
theorem Rn.lt {r cnt : Nat} {done : Value → Prop} (h : Rn P k w b r n G done cnt) : r < w.heap.size := by
  obtain ⟨es, clock, since, seen, c0, h1, h2, h3, h4, h5, h6, h7⟩ := h
  exact lt_of h6
theorem Rn.ne {r cnt : Nat} {done : Value → Prop} (h : Rn P k w b r n G done cnt) : b ≠ r := by
  obtain ⟨es, clock, since, seen, c0, h1, h2, h3, h4, h5, h6, h7⟩ := h
  intro e
  subst e
  rw [h1] at h6
  cases h6
/-- How many are still to come, read off the world. -/
theorem Rn.left {r cnt : Nat} {done : Value → Prop} (h : Rn P k w b r n G done cnt) : w.rangeLeft b r = cnt := by
  obtain ⟨es, clock, since, seen, c0, h1, h2, h3, h4, h5, h6, h7, h8, h9⟩ := h
  simp [World.rangeLeft, h1, h6, h8]
theorem Mp.range (h : Mp P k w b n G) (ht : P.underlying t = some (.map k e)) :
    ∃ w' cnt, (Instr.range t (.map (some b))).run P w = .ok (.pointer (some ⟨w.heap.size, 0, none⟩)) w' ∧ Rn P k w' b w.heap.size n G (fun _ => False) cnt ∧ Fr [] w w' ∧ cnt ≤ n := by
  have hlt := h.lt
  obtain ⟨es, clock, h1, F, h2, h3, h4⟩ := h
  refine ⟨_, _, run_range_map w t k e b es clock ht h1, ⟨es, clock, clock, #[], clock, ((MapKept.heap_alloc w _).2 b hlt).trans h1, F, h2, h3, h4, (MapKept.heap_alloc w _).1, F.stamped.1, rfl, ?_, Nat.le_refl _, Nat.le_refl _⟩, Fr.alloc _ _ _, Nat.le_trans (by unfold leftOf; exact Array.size_filter_le) h2⟩
  intro x hx
  simp
theorem Rn.next {r cnt : Nat} {done : Value → Prop} (h : Rn P k w b r n G done cnt) :
    ((∀ key, G key ≠ none → done key) ∧ ∀ ty, (Instr.next (.pointer (some ⟨r, 0, none⟩)) false ty).run P w = .ok (.tuple #[.bool false]) w) ∨
    ∃ key v w' cnt', G key = some v ∧ ¬ done key ∧ (∀ ty, (Instr.next (.pointer (some ⟨r, 0, none⟩)) false ty).run P w = .ok (.tuple #[.bool true, key, v]) w') ∧
      Rn P k w' b r n G (fun x => done x ∨ x = key) cnt' ∧ cnt' < cnt ∧ Fr [r] w w' ∧ (Instr.entry (.pointer (some ⟨r, 0, none⟩))).run P w' = .ok (.tuple #[key, v]) w' := by
  have hne := h.ne
  obtain ⟨es, clock, since, seen, c0, h1, F, h3, h4, h5, h6, h7, rfl, h9, h10, h11⟩ := h
  have hst := (MapKept.stamped_iff es clock).1 F.stamped
  rcases run_next_at (P := P) w 0 r b since c0 seen es clock h6 h1 h7 h10 with ⟨g0, hrun⟩ | ⟨x, hx, w1, hal, hrun⟩
  · refine .inl ⟨fun key hk => ?_, fun _ => hrun⟩
    obtain ⟨x, hx, rfl⟩ := h5 key hk
    exact (h9 x hx).1 (all_seen es seen g0 x hx)
  · obtain ⟨hxm, hxs⟩ := mem_left hx
    have hr1 : w1.heap[r]? = some (.mapIter (some b) since seen c0) := by rcases hal with rfl | rfl <;> exact h6
    have hb1 : w1.heap[b]? = some (.map es clock) := by rcases hal with rfl | rfl <;> exact h1
    have hf1 : Fr [r] w w1 := by
      rcases hal with rfl | rfl
      · exact Fr.refl _ _
      · exact Fr.drew (Fr.refl _ _)
    have hset := MapKept.heap_set (o' := .mapIter (some b) since (seen.push x.born) clock) hr1
    have hb' := (setBlock_fr w1 r (.mapIter (some b) since (seen.push x.born) clock)).blk hb1 (by simpa using hne)
    refine .inr ⟨x.key, x.val, _, _, h4 x hxm, fun hd => ?_, fun _ => hrun, ⟨es, clock, since, seen.push x.born, clock, hb', F, h3, h4, h5, hset.1, h7, rfl, fun y hy => ?_, h11, h11⟩, left_shrinks es seen x hx, hf1.trans (setBlock_fr w1 r _), run_entry_at _ r b since seen es clock x hset.1 hb' hxm hst.2.1⟩
    · have := (h9 x hxm).2 hd
      rw [hxs] at this
      cases this
    · rw [contains_push, Bool.or_eq_true, h9 y hy, beq_iff_eq]
      constructor
      · rintro (h | h)
        · exact .inl h
        · exact .inr (by rw [born_inj hst.2.1 hy hxm h])
      · rintro (h | h)
        · exact .inl h
        · exact .inr (by rw [entry_eq_of_key hst.2.2 hy hxm h])
end

/-! ### keys that are structs of a number and a size -/
def rk (f k : Nat) : Value := .agg #[.int .u64 (k : Int), .int .i64 (f : Int)]
theorem rk_inj {f k j : Nat} (h : rk f k = rk f j) : k = j := by
  unfold rk at h
  simp at h
  omega
open Classical in
/-- A function of the number, as one of the key. -/
noncomputable def kf (f : Nat) (F : Nat → Option Value) (x : Value) : Option Value := if h : ∃ k, x = rk f k then F (Classical.choose h) else none
theorem kf_rk (f : Nat) (F : Nat → Option Value) (k : Nat) : kf f F (rk f k) = F k := by
  unfold kf
  have h : ∃ j, rk f k = rk f j := ⟨k, rfl⟩
  rw [dif_pos h, ← rk_inj (Classical.choose_spec h)]
theorem kf_some {f : Nat} {F : Nat → Option Value} {x v : Value} (h : kf f F x = some v) : ∃ k, x = rk f k ∧ F k = some v := by
  unfold kf at h
  split at h
  · rename_i hk; exact ⟨_, Classical.choose_spec hk, h⟩
  · cases h
open Classical in
theorem kf_put (f : Nat) (F : Nat → Option Value) (k : Nat) (v : Value) : (fun x => if x = rk f k then some v else kf f F x) = kf f (fun j => if j = k then some v else F j) := by
  funext x
  by_cases hx : ∃ j, x = rk f j
  · obtain ⟨j, rfl⟩ := hx
    rw [kf_rk, kf_rk]
    by_cases hj : j = k
    · subst hj; rw [if_pos rfl, if_pos rfl]
    · rw [if_neg hj, if_neg (fun e => hj (rk_inj e))]
  · have h1 : kf f F x = none := by unfold kf; rw [dif_neg hx]
    have h2 : kf f (fun j => if j = k then some v else F j) x = none := by unfold kf; rw [dif_neg hx]
    rw [h1, h2, if_neg (fun e => hx ⟨k, e⟩)]
theorem kf_none (f : Nat) : kf f (fun _ => none) = fun _ => none := by
  funext x
  unfold kf
  split <;> rfl
end Go.Proofs.Ytmnipgmheapfbaa

