/- Slices of structs that come in, with what the row says of their sizes: each text within them is no longer than a process's memory. -/
import Derived.Test.YtmajacfcfdljeaaSo
import Derived.SizedLaws
namespace Go.Proofs.Ytmajacfcfdljeaa
open Go.RowKit
set_option linter.unusedVariables false
set_option linter.unusedSimpArgs false

theorem weightsAll_mem {H : Type} {P : Program} {e : TypeId} {d : DataW H} : ∀ {l : List (DataW H)}, d ∈ l → ∀ n ∈ d.weights P e, n ∈ DataW.weightsAll P e l
  | [], h => by cases h
  | x :: l, h => fun n hn => by
    rw [DataW.weightsAll, List.mem_append]
    rcases List.mem_cons.1 h with rfl | h
    · exact .inl hn
    · exact .inr (weightsAll_mem h n hn)

/-- A field's text is among what is weighed. -/
theorem text_le {H : Type} {P : Program} {fs : Array Field} {ys : List (DataW H × List MemPlace)} {j : Nat} {f : Field} {y : DataW H × List MemPlace} {s : ByteArray}
    (hw : ∀ n ∈ DataW.weightsEach P (fs.toList.map (·.type)) (ys.map (·.1)), n ≤ reachBytes) (hf : fs[j]? = some f) (hy : ys[j]? = some y) (hs : y = (.lit (.string s.data.toList), [])) : s.size ≤ 140737488351232 := by
  have := hw s.data.toList.length (DataW.weights_mem_each (j := j) (t := f.type) (d := y.1) (by simp [hf]) (by simp [hy]) _ (by rw [hs]; simp [DataW.weights]))
  have hr : reachBytes = 140737488351232 := by decide
  rw [hr] at this
  simpa using this

open Go.ChangeShapes Go.WideShapes Go.Deep in
theorem open_structs_w {H : Type} {α : Type} {henc : TypeId × Value → H} {P : Program} {w : World} {t e : TypeId} {fs : Array Field} {v : Value} {d : DataW H} {ps : List MemPlace} {b0 : Nat} {r : Reach} (enc : α → List Value) (ok : α → Prop)
    (ht : P.underlying t = some (.slice e)) (he : P.underlying e = some (.struct fs)) (hone : oneCellFields P fs = true) (hC : P.cellsOf e = fs.size) (hpos : 0 < fs.size)
    (hval : Value.okWide P w r b0 t v) (hd : DataW.Trod henc P w 0 (fun _ => true) true t v d ps) (hlen : ∀ x, (enc x).length = fs.size) (hwt : ∀ n ∈ d.weights P t, n ≤ reachBytes)
    (hel : ∀ a : Addr, ∀ n : Nat, (∃ ys : List (DataW H × List MemPlace), (∀ n ∈ DataW.weightsEach P (fs.toList.map (·.type)) (ys.map (·.1)), n ≤ reachBytes) ∧
        ∀ (j : Nat) (f : Field), fs[j]? = some f → ∃ (v : Value) (y : DataW H × List MemPlace), w.cell? (a.add j) = some v ∧ ys[j]? = some y ∧ DataW.trod henc P w 0 (fun _ => true) true n f.type [v] = some y) →
      ∃ x, ok x ∧ ∀ j u, (enc x)[j]? = some u → w.cell? (a.add j) = some u) :
    ∃ a0 cap, ∃ xs : List α, v = .slice a0 xs.length cap ∧ xs.length ≤ maxLen ∧ SlOf enc fs.size w a0 xs ∧ ∀ x, x ∈ xs → ok x := by
  obtain ⟨a0, len, cap, rfl⟩ := okWide_slice ht hval
  obtain ⟨fuel, hf⟩ := hd
  rcases open_slice_fields ht he hone hC hf with ⟨hcs, hx⟩ | ⟨a, len', cap', m, D, Pl, hcs, _, hl, hm, hmm, hx, hi⟩
  · simp [Value.cells] at hcs
    obtain ⟨rfl, rfl, rfl⟩ := hcs
    exact ⟨none, 0, [], rfl, by simp [maxLen], fun h => absurd rfl h, fun x hx => by cases hx⟩
  · simp [Value.cells] at hcs
    obtain ⟨rfl, rfl, rfl⟩ := hcs
    have hmm' : m = cap := by simpa using hmm
    have hd1 : d = .slice ((List.range len).map D) ((List.range (m - len)).map fun j => D (len + j)) := congrArg Prod.fst hx
    obtain ⟨xs, hxl, hxs⟩ := choose_list (n := len) (p := fun i x => ok x ∧ ∀ j u, (enc x)[j]? = some u → w.cell? ((a.add (i * fs.size)).add j) = some u) (fun i hi' => by
      obtain ⟨ys, n, hDi, _, _, hcell⟩ := hi i (by omega)
      have hwd : ∀ n ∈ (D i).weights P e, n ≤ reachBytes := fun n hn => hwt n (by
        rw [hd1, DataW.weights, ht]
        simp only [List.mem_cons, List.mem_append]
        exact .inr (.inl (weightsAll_mem (List.mem_map.2 ⟨i, List.mem_range.2 hi', rfl⟩) n hn)))
      rw [hDi, DataW.weights, he] at hwd
      obtain ⟨x, hx1, hx2⟩ := hel (a.add (i * fs.size)) n ⟨ys, hwd, fun j f hj => by
        obtain ⟨u, y, h1, h2, h3⟩ := hcell j f hj
        exact ⟨u, y, by rw [Go.Deep.add_add]; exact h1, h2, h3⟩⟩
      exact ⟨x, hx1, hx2⟩)
    refine ⟨some a, cap, xs, by rw [hxl], by rw [hxl]; exact Nat.le_trans hl hm, fun hne => ?_, fun x hx => ?_⟩
    · obtain ⟨x, xs', rfl⟩ := List.exists_cons_of_ne_nil hne
      have h0 := (hxs 0 x rfl).2 0
      have hu : ∃ u, (enc x)[0]? = some u := ⟨(enc x)[0]'(by rw [hlen]; exact hpos), List.getElem?_eq_getElem _⟩
      obtain ⟨u, hu⟩ := hu
      have hc := h0 u hu
      have hlt := block_lt_of_cell hc
      obtain ⟨b, o, sp⟩ := a
      have hsp : sp = none := by
        cases sp with
        | none => rfl
        | some s =>
          simp [Addr.add, World.cell?] at hc
          split at hc <;> simp_all
      subst hsp
      refine ⟨b, o, rfl, by simpa [Addr.add] using hlt, fun i x hi j u hu => ?_⟩
      have := (hxs i x hi).2 j u hu
      rw [add_none, add_none, Nat.add_assoc] at this
      exact this
    · obtain ⟨i, hi'⟩ := List.mem_iff_getElem?.1 hx
      exact (hxs i x hi').1
end Go.Proofs.Ytmajacfcfdljeaa

