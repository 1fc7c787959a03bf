/- A text's bytes in a row of their own ('[]byte(s)'): what it holds, a text copied into it, stores, and the text read back. -/
import Derived.Test.YtoicdepkakgedaaOw
import Derived.Lib.ConvBytes
namespace Go.Proofs.Ytoicdepkakgedaa
open Go.RowKit
set_option linter.unusedVariables false
set_option linter.unusedSimpArgs false

/-- Block g holds the bytes L, none of them frozen. -/
def Bb (w : World) (g : Nat) (e : TypeId) (L : List UInt8) : Prop := ∃ tail fz, w.heap[g]? = some (.cells (Lib.byteCells L ++ tail).toArray e fz) ∧ (fz = (0, 0) ∨ L.length ≤ fz.1)
theorem Bb.to {w w' : World} {g : Nat} {e : TypeId} {L : List UInt8} {l : List Nat} (h : Bb w g e L) (f : Fr l w w') (hg : g ∉ l) : Bb w' g e L := by
  obtain ⟨tail, fz, h1, h2⟩ := h
  exact ⟨tail, fz, f.blk h1 hg, h2⟩
theorem Bb.lt {w : World} {g : Nat} {e : TypeId} {L : List UInt8} (h : Bb w g e L) : g < w.heap.size := by
  obtain ⟨tail, fz, h1, h2⟩ := h
  exact lt_of h1
theorem Bb.cell {w : World} {g : Nat} {e : TypeId} {L : List UInt8} (h : Bb w g e L) (i : Nat) (hi : i < L.length) : w.cell? ⟨g, i, none⟩ = some (.int .u8 ((L[i]).toNat : Int)) := by
  obtain ⟨tail, fz, h1, h2⟩ := h
  rw [cell_of h1]
  simp [Lib.byteCells, List.getElem?_append_left, hi]
theorem Bb.free {w : World} {g : Nat} {e : TypeId} {L : List UInt8} (h : Bb w g e L) (i : Nat) (hi : i < L.length) : w.frozen? ⟨g, i, none⟩ = false := by
  obtain ⟨tail, fz, h1, h2⟩ := h
  obtain ⟨a, b⟩ := fz
  simp only [World.frozen?, h1, Bool.and_eq_false_iff, decide_eq_false_iff_not]
  rcases h2 with h2 | h2
  · cases h2; right; omega
  · left; simp only at h2; omega
theorem Bb.set_ {w : World} {g : Nat} {e : TypeId} {L : List UInt8} (h : Bb w g e L) (i : Nat) (hi : i < L.length) (b : UInt8) : Bb (w.setCell ⟨g, i, none⟩ (.int .u8 (b.toNat : Int))) g e (L.set i b) := by
  obtain ⟨tail, fz, h1, h2⟩ := h
  refine ⟨tail, fz, ?_, by rw [List.length_set]; exact h2⟩
  have : (w.setCell ⟨g, i, none⟩ (.int .u8 (b.toNat : Int))).heap[g]? = some (.cells ((Lib.byteCells L ++ tail).toArray.setIfInBounds i (.int .u8 (b.toNat : Int))) e fz) := by
    simp [World.setCell, Array.getElem?_modify, h1]
  rw [this]
  congr 2
  apply Array.ext'
  simp [Lib.byteCells, List.map_set, List.set_append_left, hi]

theorem text_bytes {P : Program} (w : World) (src dst e : TypeId) (s : ByteArray) {u : TypeDesc} (hs : P.underlying src = some u) (hu : u = .string) (hd : P.underlying dst = some (.slice e)) (he : P.underlying e = some (.int .u8)) :
    ∃ W cap, (convert src dst (.string s)).run P w = .ok (.slice (some ⟨w.heap.size, 0, none⟩) s.size cap) W ∧ s.size ≤ cap ∧ Bb W w.heap.size e s.data.toList ∧ Fr [] w W := by
  subst hu
  refine ⟨Lib.bytesWorld w e s, _, Lib.run_convert_string_bytes (P := P) w src dst e s hs hd he, grownCap_ge w s.size 0 e, ?_, ?_⟩
  · refine ⟨List.replicate (grownCap w s.size 0 e - s.size) (.int .u8 0), ((Lib.bytesCells w e s).size, (Lib.bytesCells w e s).size + 1), ?_, .inr ?_⟩
    · rw [Lib.bytesWorld_at_new]
      congr 2
      apply Array.ext'
      simp [Lib.bytesCells, Lib.byteCells]
    · simp [Lib.bytesCells]
  · exact ⟨rfl, rfl, rfl, by rw [Lib.bytesWorld_size]; omega, fun k hk _ => Lib.bytesWorld_at_old w e s k hk⟩

/-- The row's cells, read as a text. -/
theorem Bb.text {P : Program} {w : World} {g : Nat} {e : TypeId} {L : List UInt8} (h : Bb w g e L) (src dst : TypeId) (hs : P.underlying src = some (.slice e)) (he : P.underlying e = some (.int .u8)) (hd : P.underlying dst = some .string) (n cap : Nat) (hn : n = L.length) :
    (convert src dst (.slice (some ⟨g, 0, none⟩) n cap)).run P w = .ok (.string ⟨L.toArray⟩) w := by
  subst hn
  rw [run_convert_bytes_arg w src e hs he g 0 L.length cap (L.map fun b => (b.toNat : Int)) (by simp) (fun i hi => ?_) dst hd]
  · congr 2
    have e : List.map ((fun n : Int => UInt8.ofNat n.toNat) ∘ fun b : UInt8 => (b.toNat : Int)) L = L := by
      conv => rhs; rw [← List.map_id L]
      apply List.map_congr_left
      intro b _
      simp
    simp [strOfNums, e]
  · rw [Nat.zero_add, h.cell i hi]
    simp [List.getD, List.getElem?_eq_getElem hi]

theorem run_storeCells_ahead (P : Program) (g o : Nat) (t : TypeId) (fz : Nat × Nat) : ∀ (vs : List Value) (i : Nat) (cur : Array Value) (w : World), w.heap[g]? = some (.cells cur t fz) → (fz = (0, 0) ∨ o + i + vs.length ≤ fz.1) → o + i + vs.length ≤ cur.size → (∀ v ∈ vs, v.oneCell' = true) →
    (storeCells ⟨g, o, none⟩ vs i).run P w = .ok () (w.setRow g (cur.toList.take (o + i) ++ vs ++ cur.toList.drop (o + i + vs.length)).toArray)
  | [], i, cur, w, hg, _, _, _ => by
    simp only [storeCells, List.append_nil, List.length_nil, Nat.add_zero, List.take_append_drop, Array.toArray_toList]
    rw [setRow_self w g cur t fz hg]
    rfl
  | v :: rest, i, cur, w, hg, hfz, hl, h1 => by
    have hi : o + i < cur.size := by simp at hl; omega
    have hadd : (⟨g, o, none⟩ : Addr).add i = ⟨g, o + i, none⟩ := by unfold Addr.add; split <;> simp_all
    have hcell : w.cell? ⟨g, o + i, none⟩ = some cur[o + i] := by simp [World.cell?, hg, hi]
    have hfro : w.frozen? ⟨g, o + i, none⟩ = false := by
      obtain ⟨lo, hi'⟩ := fz
      simp only [World.frozen?, hg, Bool.and_eq_false_iff, decide_eq_false_iff_not]
      rcases hfz with hfz | hfz
      · cases hfz; right; omega
      · left; simp only [List.length_cons] at hfz; omega
    have hst : (store ((⟨g, o, none⟩ : Addr).add i) v).run P w = .ok () (w.setRow g (cur.setIfInBounds (o + i) v)) := by
      rw [hadd, run_store P w _ v _ (h1 v (by simp)), hcell]
      simp [hfro, setCell_eq_setRow w g (o + i) cur t fz v hg]
    have ih := run_storeCells_ahead P g o t fz rest (i + 1) (cur.setIfInBounds (o + i) v) (w.setRow g (cur.setIfInBounds (o + i) v)) (setRow_heap w g cur _ t _ hg) (by rcases hfz with h | h; exact .inl h; right; simp only [List.length_cons] at h; omega) (by simp at hl ⊢; omega) (fun x hx => h1 x (by simp [hx]))
    simp only [storeCells, Sem.run_bind, hst, Result.andThen_ok, ih, setRow_setRow]
    congr 3
    have e := list_seg_step cur.toList (o + i) v rest (by simp at hl ⊢; omega)
    simpa [Array.toList_setIfInBounds, Nat.add_assoc] using e

/-- 'copy(b[o:], s)', s a text that fits. -/
theorem Bb.copy {P : Program} {w : World} {g : Nat} {t : TypeId} {L : List UInt8} (h : Bb w g t L) (dT sT ty elem : TypeId) (o dLen dCap : Nat) (s : ByteArray)
    (hu : P.underlying dT = some (.slice elem)) (hs : (P.info? elem).map (·.size) = some 1) (hle : s.size ≤ dLen) (hfit : o + s.size ≤ L.length) :
    ∃ W, (Builtin.copy_ #[dT, sT] ty #[.slice (some ⟨g, o, none⟩) dLen dCap, .string s]).run P w = .ok (goInt s.size) W ∧ Bb W g t (L.take o ++ (s.data.toList ++ L.drop (o + s.size))) ∧ Fr [g] w W := by
  obtain ⟨tail, fz, h1, h2⟩ := h
  have hlen : (Lib.byteCells s.data.toList).length = s.size := by rw [Lib.byteCells_length, ← Lib.size_eq]
  have hL : (Lib.byteCells L).length = L.length := Lib.byteCells_length L
  have hst := run_storeCells_ahead P g o t fz (Lib.byteCells s.data.toList) 0 _ w h1 (by rcases h2 with h | h; exact .inl h; right; rw [hlen]; omega) (by rw [hlen]; simp [hL]; omega) (Lib.byteCells_one _)
  have hmin : Nat.min s.size dLen = s.size := Nat.min_eq_left hle
  have htk : List.take s.size (List.map (fun b : UInt8 => Value.int IntKind.u8 (b.toNat : Int)) s.data.toList) = Lib.byteCells s.data.toList := by
    rw [List.take_of_length_le (by rw [List.length_map, ← Lib.size_eq]; exact Nat.le_refl _)]
    rfl
  rw [hlen] at hst
  simp only [Nat.add_zero] at hst
  refine ⟨w.setRow g ((Lib.byteCells L ++ tail).toArray.toList.take o ++ Lib.byteCells s.data.toList ++ (Lib.byteCells L ++ tail).toArray.toList.drop (o + s.size)).toArray, ?_, ⟨tail, fz, ?_, ?_⟩, ?_⟩
  · cases hq : P.info? elem with
    | none => simp [hq] at hs
    | some i =>
      simp [Builtin.copy_, run_underlying hu, Builtin.lenOf, Builtin.firstCells, sizeOf, typeInfo, hq, hmin]
      rw [htk, hst]
      simp [Result.andThen, List.append_assoc]
  · rw [setRow_heap _ _ _ _ _ _ h1]
    congr 2
    apply Array.ext'
    simp only [Lib.byteCells, List.map_append, List.map_take, List.map_drop]
    rw [List.take_append_of_le_length (by simp; omega), List.drop_append_of_le_length (by simp; omega)]
    simp
  · rcases h2 with h | h
    · exact .inl h
    · right; simp; omega
  · exact ⟨rfl, rfl, rfl, by simp [World.setRow], fun k hk hl => setRow_other w g k _ (by simp at hl; omega)⟩
end Go.Proofs.Ytoicdepkakgedaa
