/- Slices of structs that come in: what their cells hold, as a list of Lean structures. -/
import Derived.Test.YtciejmlhdmjajaaGreatKBa
import Derived.Deep.Slices
import Derived.Deep.Fields
import Derived.OpenShut
namespace Go.Proofs.YtciejmlhdmjajaaGreat
open Go.RowKit
set_option linter.unusedVariables false
set_option linter.unusedSimpArgs false

/-- The slice with address a0 holds xs: element i lies in the cells from i * sz on. -/
def SlOf {α : Type} (enc : α → List Value) (sz : Nat) (w : World) (a0 : Option Addr) (xs : List α) : Prop :=
  xs ≠ [] → ∃ b o, a0 = some ⟨b, o, none⟩ ∧ b < w.heap.size ∧ ∀ i x, xs[i]? = some x → ∀ j u, (enc x)[j]? = some u → w.cell? ⟨b, o + (i * sz + j), none⟩ = some u

theorem SlOf.below {α : Type} {enc : α → List Value} {sz : Nat} {w w' : World} {a0 : Option Addr} {xs : List α} (h : SlOf enc sz w a0 xs) (hb : Below w.heap.size w w') : SlOf enc sz w' a0 xs := fun hx => by
  obtain ⟨b, o, h1, h2, h3⟩ := h hx
  exact ⟨b, o, h1, Nat.lt_of_lt_of_le h2 hb.size, fun i x hi j u hu => by rw [hb.cell (p := ⟨b, _, none⟩) h2]; exact h3 i x hi j u hu⟩

theorem add_none (b o k : Nat) : Addr.add ⟨b, o, none⟩ k = ⟨b, o + k, none⟩ := by
  unfold Addr.add
  split <;> simp_all

theorem choose_list {α : Type} {n : Nat} {p : Nat → α → Prop} (h : ∀ i, i < n → ∃ x, p i x) : ∃ xs : List α, xs.length = n ∧ ∀ i x, xs[i]? = some x → p i x := by
  classical
  cases n with
  | zero => exact ⟨[], rfl, fun i x hx => by simp at hx⟩
  | succ n =>
    have : Inhabited α := ⟨Classical.choose (h 0 (by omega))⟩
    obtain ⟨f, hf⟩ := Go.Deep.choose_lt h
    refine ⟨(List.range (n + 1)).map f, by simp, fun i x hx => ?_⟩
    obtain ⟨hi, he⟩ := List.getElem?_eq_some_iff.1 hx
    simp at hi he
    rw [← he]
    exact hf i (by omega)

open Go.ChangeShapes Go.WideShapes Go.Deep in
theorem open_slice_fields {H : Type} {enc : TypeId × Value → H} {P : Program} {w : World} {base : Nat} {spare : Nat → Bool} {held : Bool} {t e : TypeId} {fs : Array Field} {fuel : Nat} {cs : List Value} {x : DataW H × List MemPlace} (ht : P.underlying t = some (.slice e)) (he : P.underlying e = some (.struct fs))
    (hone : oneCellFields P fs = true) (hC : P.cellsOf e = fs.size) (h : DataW.trod enc P w base spare held fuel t cs = some x) :
    (cs = [.slice none 0 0] ∧ x = (.nil, [])) ∨
    ∃ (a : Addr) (len cap m : Nat) (D : Nat → DataW H) (Pl : Nat → List MemPlace), cs = [.slice (some a) len cap] ∧ base ≤ a.block ∧ len ≤ cap ∧ cap ≤ maxLen ∧ m = (if spare a.block then cap else len) ∧
      x = (.slice ((List.range len).map D) ((List.range (m - len)).map fun j => D (len + j)), MemPlace.row a (m * fs.size) ++ (List.range m).flatMap Pl) ∧
      ∀ i, i < m → ∃ (ys : List (DataW H × List MemPlace)) (n : Nat), D i = .agg (ys.map (·.1)) ∧ Pl i = ys.flatMap (·.2) ∧ ys.length = fs.size ∧
        ∀ (j : Nat) (f : Field), fs[j]? = some f → ∃ (v : Value) (y : DataW H × List MemPlace), w.cell? (a.add (i * fs.size + j)) = some v ∧ ys[j]? = some y ∧ DataW.trod enc P w base spare held n f.type [v] = some y := by
  rcases open_slice ht h with h0 | ⟨a, len, cap, m, n, D, Pl, hcs, hb, hl, hm, hmm, hx, hi⟩
  · exact .inl h0
  · refine .inr ⟨a, len, cap, m, D, Pl, hcs, hb, hl, hm, hmm, by rw [hC] at hx; exact hx, fun i him => ?_⟩
    obtain ⟨cs', hc, ht'⟩ := hi i him
    rw [hC] at hc
    obtain ⟨ys, n', hn', hy, hlen, hyl, hf⟩ := DataW.trod_struct he ht'
    obtain ⟨_, hcl, hat⟩ := World.cells?_some hc
    simp only [Prod.mk.injEq] at hy
    refine ⟨ys, n', hy.1, hy.2, hyl, fun j f hj => ?_⟩
    obtain ⟨ho, hk⟩ := hone_of hone j f hj
    have hjl : j < fs.size := (Array.getElem?_eq_some_iff.1 hj).1
    have hcell := hat j hjl
    have hv : cs'[j]? = some (cs'[j]'(by omega)) := List.getElem?_eq_getElem (by omega)
    have h1 := hf j f hj
    rw [ho, hk] at h1
    have hone' : (cs'.drop j).take 1 = [cs'[j]'(by omega)] := by
      rw [List.drop_eq_getElem_cons (by omega)]
      rfl
    rw [hone'] at h1
    have hys : ys[j]? = some (ys[j]'(by omega)) := List.getElem?_eq_getElem (by omega)
    refine ⟨_, _, ?_, hys, h1.trans hys⟩
    rw [← Go.Deep.add_add, hcell, hv]

open Go.ChangeShapes Go.WideShapes Go.Deep in
/-- From the reading of a slice of structs: its length, and for each element whatever its fields' cells give. -/
theorem open_structs {H : Type} {α : Type} {henc : TypeId × Value → H} {P : Program} {w : World} {t e : TypeId} {fs : Array Field} {v : Value} {d : DataW H} {ps : List MemPlace} {b0 : Nat} {r : Reach} (enc : α → List Value) (ok : α → Prop)
    (ht : P.underlying t = some (.slice e)) (he : P.underlying e = some (.struct fs)) (hone : oneCellFields P fs = true) (hC : P.cellsOf e = fs.size) (hpos : 0 < fs.size)
    (hval : Value.okWide P w r b0 t v) (hd : DataW.Trod henc P w 0 (fun _ => true) true t v d ps) (hlen : ∀ x, (enc x).length = fs.size)
    (hel : ∀ a : Addr, ∀ n : Nat, (∃ ys : List (DataW H × List MemPlace), ∀ (j : Nat) (f : Field), fs[j]? = some f → ∃ (v : Value) (y : DataW H × List MemPlace), w.cell? (a.add j) = some v ∧ ys[j]? = some y ∧ DataW.trod henc P w 0 (fun _ => true) true n f.type [v] = some y) →
      ∃ x, ok x ∧ ∀ j u, (enc x)[j]? = some u → w.cell? (a.add j) = some u) :
    ∃ a0 cap, ∃ xs : List α, v = .slice a0 xs.length cap ∧ xs.length ≤ maxLen ∧ SlOf enc fs.size w a0 xs ∧ ∀ x, x ∈ xs → ok x := by
  obtain ⟨a0, len, cap, rfl⟩ := okWide_slice ht hval
  obtain ⟨fuel, hf⟩ := hd
  rcases open_slice_fields ht he hone hC hf with ⟨hcs, hx⟩ | ⟨a, len', cap', m, D, Pl, hcs, _, hl, hm, hmm, hx, hi⟩
  · simp [Value.cells] at hcs
    obtain ⟨rfl, rfl, rfl⟩ := hcs
    exact ⟨none, 0, [], rfl, by simp [maxLen], fun h => absurd rfl h, fun x hx => by cases hx⟩
  · simp [Value.cells] at hcs
    obtain ⟨rfl, rfl, rfl⟩ := hcs
    have hmm' : m = cap := by simpa using hmm
    obtain ⟨xs, hxl, hxs⟩ := choose_list (n := len) (p := fun i x => ok x ∧ ∀ j u, (enc x)[j]? = some u → w.cell? ((a.add (i * fs.size)).add j) = some u) (fun i hi' => by
      obtain ⟨ys, n, _, _, _, hcell⟩ := hi i (by omega)
      obtain ⟨x, hx1, hx2⟩ := hel (a.add (i * fs.size)) n ⟨ys, fun j f hj => by
        obtain ⟨u, y, h1, h2, h3⟩ := hcell j f hj
        exact ⟨u, y, by rw [Go.Deep.add_add]; exact h1, h2, h3⟩⟩
      exact ⟨x, hx1, hx2⟩)
    refine ⟨some a, cap, xs, by rw [hxl], by rw [hxl]; exact Nat.le_trans hl hm, fun hne => ?_, fun x hx => ?_⟩
    · obtain ⟨x, xs', rfl⟩ := List.exists_cons_of_ne_nil hne
      have h0 := (hxs 0 x rfl).2 0
      have hu : ∃ u, (enc x)[0]? = some u := ⟨(enc x)[0]'(by rw [hlen]; exact hpos), List.getElem?_eq_getElem _⟩
      obtain ⟨u, hu⟩ := hu
      have hc := h0 u hu
      have hlt := block_lt_of_cell hc
      obtain ⟨b, o, sp⟩ := a
      have hsp : sp = none := by
        cases sp with
        | none => rfl
        | some s =>
          simp [Addr.add, World.cell?] at hc
          split at hc <;> simp_all
      subst hsp
      refine ⟨b, o, rfl, by simpa [Addr.add] using hlt, fun i x hi j u hu => ?_⟩
      have := (hxs i x hi).2 j u hu
      rw [add_none, add_none, Nat.add_assoc] at this
      exact this
    · obtain ⟨i, hi'⟩ := List.mem_iff_getElem?.1 hx
      exact (hxs i x hi').1

end Go.Proofs.YtciejmlhdmjajaaGreat

